/-
  Lemmas and contracts of single functions of this program, used by the proofs of its laws: what each call returns and what becomes of memory. Conditions: the hypotheses of each theorem.
-/
import Derived.Test.YtodbgkflakfjpaaDrawW
import Derived.Test.YtodbgkflakfjpaaSlitA
import Derived.Test.YtodbgkflakfjpaaBoolA
namespace Go.Proofs.Ytodbgkflakfjpaa
open Go.RowKit
attribute [local go_sem ↓] Go.wp_at_zero Go.wp_at_succ

set_option maxRecDepth 100000 in
set_option maxHeartbeats 8000000 in
theorem DrawRecallFrom_any (v : Value) (xs : List Int) (w : World) (h : Bytes w 0 w.heap.size v xs) :
    Calls Try.prog 54 #[v] w fun e w' => ∃ (W L : Int) (u z : Value) (ds ps : List (List Int)) (i most : Int), e = .returned (.tuple #[.agg #[.int .i64 W, .int .i64 L, u], z, .int .i64 i, .int .i64 most]) ∧ OwnT w' w.heap.size 68 5 u ds ∧ OwnT w' w.heap.size 58 4 z ps ∧ (-1 ≤ i ∧ i ≤ 9) ∧ (-1 ≤ most ∧ most ≤ 9) ∧ Below w.heap.size w w' := by
  have Hs := Lib.hid (show ∃ w1, w1 = (w.alloc (.cells #[.int .i64 0, .int .i64 0, .slice none 0 0] 30)) ∧ Below w.heap.size w w1 ∧ w1.cell? ⟨w.heap.size, 0, none⟩ = some (.int .i64 0) ∧ w1.cell? ⟨w.heap.size, 1, none⟩ = some (.int .i64 0) ∧ w1.cell? ⟨w.heap.size, 2, none⟩ = some (.slice none 0 0) ∧ w1.frozen? ⟨w.heap.size, 0, none⟩ = false ∧ w1.frozen? ⟨w.heap.size, 1, none⟩ = false ∧ w1.frozen? ⟨w.heap.size, 2, none⟩ = false ∧ w.heap.size < w1.heap.size from by
    have hb : Below w.heap.size w (w.alloc (.cells #[.int .i64 0, .int .i64 0, .slice none 0 0] 30)) := (Below.refl _ _).alloc (Nat.le_refl _) _
    exact ⟨_, rfl, hb, by go_simp, by go_simp, by go_simp, by go_simp, by go_simp, by go_simp, by simp⟩)
  have hb1 : ∀ w1, Below w.heap.size w w1 → Bytes w1 0 w.heap.size v xs := fun w1 hb => h.kept (.of_below hb (Nat.le_refl _))
  have hv : ∃ A n c, v = .slice A n c := by obtain ⟨A, c, e, _⟩ := h; exact ⟨A, _, c, e⟩
  obtain ⟨A0, n0, c0, rfl⟩ := hv
  go_enter Try.func54, Try.ntmps54
  go_wp2_with fail
  obtain ⟨w1, hw1, hb0, c00, c01, c02, f00, f01, f02, hz⟩ := Hs.out
  have HZ := Lib.hid (show w1.heap.size = w.heap.size + 1 by rw [hw1]; simp)
  rw [← hw1]
  clear hw1 Hs
  have hby := hb1 w1 hb0
  clear hb1 h
  refine (newReader_any _ xs w1 (Bytes.wide hby (Nat.le_refl _) (by omega))).mono ?_
  rintro e w2 ⟨rv, rfl, hr2, bx⟩
  replace c00 := keepB bx c00; replace c01 := keepB bx c01; replace c02 := keepB bx c02
  replace f00 := keepF bx (by first | (simp; done) | (simp; omega)) f00; replace f01 := keepF bx (by first | (simp; done) | (simp; omega)) f01; replace f02 := keepF bx (by first | (simp; done) | (simp; omega)) f02
  have hb2 := hb0.trans (bx.mono (by omega))
  have hz2 := hr2.lt
  clear hby bx hb0
  go_wp2_with fail
  refine (cutReel_any _ _ _ _ w2 hr2 (by omega)).mono ?_
  rintro e w3 ⟨W, L, u, z, ds, ps, k3, rfl, hb, ho, hp, hpl, hr3, hk3, bg1⟩
  obtain ⟨G, hG⟩ : ∃ G, G = w1.heap.size := ⟨_, rfl⟩
  rw [← hG] at hr3 bg1 hz2
  have hG1 : w.heap.size < G := by omega
  clear hr2 hz HZ hG
  replace c00 := keepW bg1 (by first | (simp; done) | (simp; omega)) c00; replace c01 := keepW bg1 (by first | (simp; done) | (simp; omega)) c01; replace c02 := keepW bg1 (by first | (simp; done) | (simp; omega)) c02
  replace f00 := keepWF bg1 (by first | (simp; done) | (simp; omega)) f00; replace f01 := keepWF bg1 (by first | (simp; done) | (simp; omega)) f01; replace f02 := keepWF bg1 (by first | (simp; done) | (simp; omega)) f02
  have hb3 := hb2.trans (below_of_grown bg1 (by omega) (by omega))
  have hz3 := bg1.size
  have hGz : G < w3.heap.size := by omega
  obtain ⟨A, c, rfl, hc, hm⟩ := ho.form
  obtain ⟨A2, c2, rfl, hc2, hm2⟩ := hp.form
  clear hb2 bg1
  go_wp2_with fail
  obtain ⟨w4, hw1⟩ : ∃ w4, w4 = w3.alloc (.cells #[.int .i64 W, .int .i64 L, .slice A ds.length c] 30) := ⟨_, rfl⟩
  have x0 : w4.cell? ⟨w3.heap.size, 0, none⟩ = some (.int .i64 W) := by rw [hw1]; go_simp
  have x1 : w4.cell? ⟨w3.heap.size, 1, none⟩ = some (.int .i64 L) := by rw [hw1]; go_simp
  have x2 : w4.cell? ⟨w3.heap.size, 2, none⟩ = some (.slice A ds.length c) := by rw [hw1]; go_simp
  have bx : Below w3.heap.size w3 w4 := by rw [hw1]; exact (Below.refl _ _).alloc (Nat.le_refl _) _
  have zx : w3.heap.size < w4.heap.size := by rw [hw1]; simp
  have HZx := Lib.hid (show w4.heap.size = w3.heap.size + 1 by rw [hw1]; simp)
  have fx0 : w4.frozen? ⟨w3.heap.size, 0, none⟩ = false := by rw [hw1]; go_simp
  have fx1 : w4.frozen? ⟨w3.heap.size, 1, none⟩ = false := by rw [hw1]; go_simp
  have fx2 : w4.frozen? ⟨w3.heap.size, 2, none⟩ = false := by rw [hw1]; go_simp
  have Hx := Lib.hid (show w4.heap[w3.heap.size]? = some (.cells #[.int .i64 W, .int .i64 L, .slice A ds.length c] 30) by rw [hw1]; exact heap_alloc_new w3 _)
  rw [← hw1]
  clear hw1
  replace c00 := keepB bx c00; replace c01 := keepB bx c01; replace c02 := keepB bx c02
  replace f00 := keepF bx (by first | (simp; done) | (simp; omega)) f00; replace f01 := keepF bx (by first | (simp; done) | (simp; omega)) f01; replace f02 := keepF bx (by first | (simp; done) | (simp; omega)) f02
  have hr4 := hr3.below bx
  have hz4 : w3.heap.size + 1 ≤ w4.heap.size := by have := HZx.out; omega
  have Ho := Lib.hid (ho.kept (.of_below bx (Nat.le_refl _)))
  have Hp := Lib.hid (hp.kept (.of_below bx (Nat.le_refl _)))
  have hb4 := hb3.trans (bx.mono (by omega))
  have hk1 : k3 ≤ 1000000 := by omega
  clear bx hr3 ho hp hb3 zx HZx fx0 fx1 fx2 Hx
  refine (validReel_any _ _ W L _ ds w4 Ho.out.ts (Nat.le_refl _)).mono ?_
  rintro e w5 ⟨rfl, bv⟩
  replace c00 := keepB bv c00; replace c01 := keepB bv c01; replace c02 := keepB bv c02; replace x0 := keepB bv x0; replace x1 := keepB bv x1; replace x2 := keepB bv x2
  replace f00 := keepF bv (by first | (simp; done) | (simp; omega)) f00; replace f01 := keepF bv (by first | (simp; done) | (simp; omega)) f01; replace f02 := keepF bv (by first | (simp; done) | (simp; omega)) f02
  have hr5 := hr4.below bv
  have Ho5 := Lib.hid (Ho.out.kept (.of_below bv (Nat.le_refl _)))
  have Hp5 := Lib.hid (Hp.out.kept (.of_below bv (Nat.le_refl _)))
  have hb5 := hb4.trans (bv.mono (by omega))
  have hz5 : w3.heap.size + 1 ≤ w5.heap.size := by have := bv.size; omega
  clear hr4 Ho Hp hb4 bv hz4
  cases hvr : vReel W L ds
  · clear hvr
    have hrT := hr5
    have hkT : _ ≤ 1000000 := hk1
    have HoT := Lib.hid (Ho5.out)
    have HpT := Lib.hid (Hp5.out)
    have hbT := hb5
    have hzT : w3.heap.size + 1 ≤ w5.heap.size := hz5
    clear hr5 hk1 Ho5 Hp5 hb5 hz5
    have hne1 : ¬ w3.heap.size = w.heap.size := by omega
    have hne2 : ¬ w.heap.size = w3.heap.size := by omega
    go_wp2
    refine wp_region_held_drew (S := fun w' => w'.cell? ⟨w3.heap.size, 0, none⟩ = some (.int .i64 W) ∧ w'.cell? ⟨w3.heap.size, 1, none⟩ = some (.int .i64 L) ∧ w'.cell? ⟨w3.heap.size, 2, none⟩ = some (.slice A ds.length c)) (by kernel_rfl) ?_ (fun hHeld => ?_)
    · (first | (try dsimp only); go_keep | (go_split_ands; refine ⟨?_, ?_, ?_⟩ <;> first | exact keepB bx5 (by assumption) | exact keepB bx4 (by assumption) | exact keepB bx3 (by assumption) | exact keepB bx2 (by assumption) | exact keepB bx1 (by assumption) | exact keepO bo5 (by first | (simp; done) | (simp; omega)) (by assumption) | exact keepO bo4 (by first | (simp; done) | (simp; omega)) (by assumption) | exact keepO bo3 (by first | (simp; done) | (simp; omega)) (by assumption) | exact keepO bo2 (by first | (simp; done) | (simp; omega)) (by assumption) | exact keepO bo1 (by first | (simp; done) | (simp; omega)) (by assumption) | exact keepW bg2 (by first | (simp; done) | (simp; omega)) (by assumption) | exact keepW bg1 (by first | (simp; done) | (simp; omega)) (by assumption) | assumption))
    refine wpAnyH_take (i := 0) (oi := ⟨some 37, _, _, _, _, _⟩) (v := _) rfl (by kernel_rfl) (by kernel_rfl) (by kernel_rfl) (fun _ _ _ h => h) (Or.inl ⟨by kernel_rfl, by intro w hSw; (try dsimp only at hSw); go_simp; try with_reducible rfl⟩) (by assumption) ?_
    simp only [Act.put, List.setIfInBounds_toArray, List.set_cons_zero, List.set_cons_succ]
    refine wpAnyH_take (i := 1) (oi := ⟨some 38, _, _, _, _, _⟩) (v := _) rfl (by kernel_rfl) (by kernel_rfl) (by kernel_rfl) (fun _ _ _ h => h) (Or.inl ⟨by kernel_rfl, by intro w hSw; (try dsimp only at hSw); go_simp; try with_reducible rfl⟩) (by assumption) ?_
    simp only [Act.put, List.setIfInBounds_toArray, List.set_cons_zero, List.set_cons_succ]
    refine wpAnyH_take (i := 2) (oi := ⟨some 39, _, _, _, _, _⟩) (v := _) rfl (by kernel_rfl) (by kernel_rfl) (by kernel_rfl) (fun _ _ _ h => h) (Or.inl ⟨by kernel_rfl, by intro w hSw; (try dsimp only at hSw); go_simp; try with_reducible rfl⟩) (by assumption) ?_
    simp only [Act.put, List.setIfInBounds_toArray, List.set_cons_zero, List.set_cons_succ]
    refine wpAnyH_take (i := 5) (oi := ⟨some 42, _, _, _, _, _⟩) (v := _) rfl (by kernel_rfl) (by kernel_rfl) (by kernel_rfl) (fun _ _ _ h => h) (Or.inl ⟨by kernel_rfl, by intro w hSw; (try dsimp only at hSw); go_simp; try with_reducible rfl⟩) (by assumption) ?_
    simp only [Act.put, List.setIfInBounds_toArray, List.set_cons_zero, List.set_cons_succ]
    refine wpAnyH_ready (rs := [3, 6]) (by kernel_rfl) (by simp) (AllReadyH.cons (o := ⟨some 40, _, _, _, _, _⟩) rfl (fun K hK => ?_) (AllReadyH.cons (o := ⟨some 43, _, _, _, _, _⟩) rfl (fun K hK => ?_) (AllReadyH.nil)))
    focus
      go_simp
      refine hK.out _ _ ?_ (fun hHeld2 => ?_)
      · (first | (try dsimp only); go_keep | (go_split_ands; refine ⟨?_, ?_, ?_⟩ <;> first | exact keepB bx5 (by assumption) | exact keepB bx4 (by assumption) | exact keepB bx3 (by assumption) | exact keepB bx2 (by assumption) | exact keepB bx1 (by assumption) | exact keepO bo5 (by first | (simp; done) | (simp; omega)) (by assumption) | exact keepO bo4 (by first | (simp; done) | (simp; omega)) (by assumption) | exact keepO bo3 (by first | (simp; done) | (simp; omega)) (by assumption) | exact keepO bo2 (by first | (simp; done) | (simp; omega)) (by assumption) | exact keepO bo1 (by first | (simp; done) | (simp; omega)) (by assumption) | exact keepW bg2 (by first | (simp; done) | (simp; omega)) (by assumption) | exact keepW bg1 (by first | (simp; done) | (simp; omega)) (by assumption) | assumption))
      clear hK K hHeld
      have hHeld := hHeld2
      clear hHeld2
      try simp only [Act.put, List.setIfInBounds_toArray, List.set_cons_zero, List.set_cons_succ]
      refine wpAnyH_ready (rs := [4, 6]) (by kernel_rfl) (by simp) (AllReadyH.cons (o := ⟨some 41, _, _, _, _, _⟩) rfl (fun K hK => ?_) (AllReadyH.cons (o := ⟨some 43, _, _, _, _, _⟩) rfl (fun K hK => ?_) (AllReadyH.nil)))
      focus
        go_simp
        go_at_call 92
        rw [show (w5.alloc (.cells #[.int .i64 0, .int .i64 1, .int .i64 2, .int .i64 (-1), .int .i64 9] 3)).drew = w5.drew.alloc (.cells #[.int .i64 0, .int .i64 1, .int .i64 2, .int .i64 (-1), .int .i64 9] 3) from rfl]
        refine (one_lit G k3 G rv [0, 1, 2, -1, 9] w5.drew _ 5 w5.heap.size hrT.drew hkT rfl rfl rfl (by simp) (by simp) (by unfold I64; simp)).mono ?_
        rintro e wc ⟨y, rfl, hy, hrc, bg3⟩
        have hy1 : -1 ≤ y ∧ y ≤ 9 := by simp only [List.mem_cons, List.not_mem_nil, or_false] at hy; omega
        have bg2 := grown_drew bg3
        have hzc := bg2.size
        replace c00 := keepW bg2 (by first | (simp; done) | (simp; omega)) c00; replace c01 := keepW bg2 (by first | (simp; done) | (simp; omega)) c01; replace c02 := keepW bg2 (by first | (simp; done) | (simp; omega)) c02; replace x0 := keepW bg2 (by first | (simp; done) | (simp; omega)) x0; replace x1 := keepW bg2 (by first | (simp; done) | (simp; omega)) x1; replace x2 := keepW bg2 (by first | (simp; done) | (simp; omega)) x2
        replace f00 := keepWF bg2 (by first | (simp; done) | (simp; omega)) f00; replace f01 := keepWF bg2 (by first | (simp; done) | (simp; omega)) f01; replace f02 := keepWF bg2 (by first | (simp; done) | (simp; omega)) f02
        go_wp2_with fail
        refine hK.out _ _ ?_ (fun hHeld2 => ?_)
        · (first | (try dsimp only); go_keep | (go_split_ands; refine ⟨?_, ?_, ?_⟩ <;> first | exact keepB bx5 (by assumption) | exact keepB bx4 (by assumption) | exact keepB bx3 (by assumption) | exact keepB bx2 (by assumption) | exact keepB bx1 (by assumption) | exact keepO bo5 (by first | (simp; done) | (simp; omega)) (by assumption) | exact keepO bo4 (by first | (simp; done) | (simp; omega)) (by assumption) | exact keepO bo3 (by first | (simp; done) | (simp; omega)) (by assumption) | exact keepO bo2 (by first | (simp; done) | (simp; omega)) (by assumption) | exact keepO bo1 (by first | (simp; done) | (simp; omega)) (by assumption) | exact keepW bg2 (by first | (simp; done) | (simp; omega)) (by assumption) | exact keepW bg1 (by first | (simp; done) | (simp; omega)) (by assumption) | assumption))
        clear hK K hHeld
        have hHeld := hHeld2
        clear hHeld2
        try simp only [Act.put, List.setIfInBounds_toArray, List.set_cons_zero, List.set_cons_succ]
        refine wpAnyH_ready (rs := [6]) (by kernel_rfl) (by simp) ?_
        refine AllReadyH.cons (o := ⟨some 43, _, _, _, _, _⟩) rfl (fun K hK => ?_) AllReadyH.nil
        go_simp
        refine hK.out _ _ ?_ (fun hHeld2 => ?_)
        · (first | (try dsimp only); go_keep | (go_split_ands; refine ⟨?_, ?_, ?_⟩ <;> first | exact keepB bx5 (by assumption) | exact keepB bx4 (by assumption) | exact keepB bx3 (by assumption) | exact keepB bx2 (by assumption) | exact keepB bx1 (by assumption) | exact keepO bo5 (by first | (simp; done) | (simp; omega)) (by assumption) | exact keepO bo4 (by first | (simp; done) | (simp; omega)) (by assumption) | exact keepO bo3 (by first | (simp; done) | (simp; omega)) (by assumption) | exact keepO bo2 (by first | (simp; done) | (simp; omega)) (by assumption) | exact keepO bo1 (by first | (simp; done) | (simp; omega)) (by assumption) | exact keepW bg2 (by first | (simp; done) | (simp; omega)) (by assumption) | exact keepW bg1 (by first | (simp; done) | (simp; omega)) (by assumption) | assumption))
        clear hK K hHeld
        have hHeld := hHeld2
        clear hHeld2
        try simp only [Act.put, List.setIfInBounds_toArray, List.set_cons_zero, List.set_cons_succ]
        refine wpAnyH_ready (rs := [7]) (by kernel_rfl) (by simp) ?_
        refine AllReadyH.cons (o := ⟨some 44, _, _, _, _, _⟩) rfl (fun K hK => ?_) AllReadyH.nil
        go_simp
        go_at_call 92
        refine (one_lit G (k3 + 1) G rv [0, 3, 5, -1, 9] wc _ 5 wc.heap.size hrc (by omega) rfl rfl rfl (by simp) (by simp) (by unfold I64; simp)).mono ?_
        rintro e wd ⟨z, rfl, hz, hrd, bg4⟩
        have hz1 : -1 ≤ z ∧ z ≤ 9 := by simp only [List.mem_cons, List.not_mem_nil, or_false] at hz; omega
        have bgd := grown_trans bg2 bg4
        replace c00 := keepW bg4 (by first | (simp; done) | (simp; omega)) c00; replace c01 := keepW bg4 (by first | (simp; done) | (simp; omega)) c01; replace c02 := keepW bg4 (by first | (simp; done) | (simp; omega)) c02; replace x0 := keepW bg4 (by first | (simp; done) | (simp; omega)) x0; replace x1 := keepW bg4 (by first | (simp; done) | (simp; omega)) x1; replace x2 := keepW bg4 (by first | (simp; done) | (simp; omega)) x2
        replace f00 := keepWF bg4 (by first | (simp; done) | (simp; omega)) f00; replace f01 := keepWF bg4 (by first | (simp; done) | (simp; omega)) f01; replace f02 := keepWF bg4 (by first | (simp; done) | (simp; omega)) f02
        go_wp2_with fail
        refine hK.out _ _ ?_ (fun hHeld2 => ?_)
        · (first | (try dsimp only); go_keep | (go_split_ands; refine ⟨?_, ?_, ?_⟩ <;> first | exact keepB bx5 (by assumption) | exact keepB bx4 (by assumption) | exact keepB bx3 (by assumption) | exact keepB bx2 (by assumption) | exact keepB bx1 (by assumption) | exact keepO bo5 (by first | (simp; done) | (simp; omega)) (by assumption) | exact keepO bo4 (by first | (simp; done) | (simp; omega)) (by assumption) | exact keepO bo3 (by first | (simp; done) | (simp; omega)) (by assumption) | exact keepO bo2 (by first | (simp; done) | (simp; omega)) (by assumption) | exact keepO bo1 (by first | (simp; done) | (simp; omega)) (by assumption) | exact keepW bg2 (by first | (simp; done) | (simp; omega)) (by assumption) | exact keepW bg1 (by first | (simp; done) | (simp; omega)) (by assumption) | assumption))
        clear hK K hHeld
        have hHeld := hHeld2
        clear hHeld2
        try simp only [Act.put, List.setIfInBounds_toArray, List.set_cons_zero, List.set_cons_succ]
        refine wpAnyH_ready (rs := [8]) (by kernel_rfl) (by simp) ?_
        refine AllReadyH.cons (o := ⟨none, _, _, _, _, _⟩) rfl (fun K hK => ?_) AllReadyH.nil
        go_simp
        refine hK.out _ _ ?_ (fun hHeld2 => ?_)
        · (first | (try dsimp only); go_keep | (go_split_ands; refine ⟨?_, ?_, ?_⟩ <;> first | exact keepB bx5 (by assumption) | exact keepB bx4 (by assumption) | exact keepB bx3 (by assumption) | exact keepB bx2 (by assumption) | exact keepB bx1 (by assumption) | exact keepO bo5 (by first | (simp; done) | (simp; omega)) (by assumption) | exact keepO bo4 (by first | (simp; done) | (simp; omega)) (by assumption) | exact keepO bo3 (by first | (simp; done) | (simp; omega)) (by assumption) | exact keepO bo2 (by first | (simp; done) | (simp; omega)) (by assumption) | exact keepO bo1 (by first | (simp; done) | (simp; omega)) (by assumption) | exact keepW bg2 (by first | (simp; done) | (simp; omega)) (by assumption) | exact keepW bg1 (by first | (simp; done) | (simp; omega)) (by assumption) | assumption))
        clear hK K hHeld
        have hHeld := hHeld2
        clear hHeld2
        try simp only [Act.put, List.setIfInBounds_toArray, List.set_cons_zero, List.set_cons_succ]
        refine wpAnyH_take (i := 9) (oi := ⟨some 3, _, _, _, _, _⟩) (v := _) rfl (by kernel_rfl) (by kernel_rfl) (by kernel_rfl) (fun _ _ _ h => h) (Or.inl ⟨by kernel_rfl, by intro w hSw; (try dsimp only at hSw); go_simp; try with_reducible rfl⟩) (by assumption) ?_
        simp only [Act.put, List.setIfInBounds_toArray, List.set_cons_zero, List.set_cons_succ]
        refine wpAnyH_take (i := 10) (oi := ⟨some 4, _, _, _, _, _⟩) (v := _) rfl (by kernel_rfl) (by kernel_rfl) (by kernel_rfl) (fun _ _ _ h => h) (Or.inl ⟨by kernel_rfl, by intro w hSw; (try dsimp only at hSw); go_simp; try with_reducible rfl⟩) (by assumption) ?_
        simp only [Act.put, List.setIfInBounds_toArray, List.set_cons_zero, List.set_cons_succ]
        refine wpAnyH_take (i := 11) (oi := ⟨some 5, _, _, _, _, _⟩) (v := _) rfl (by kernel_rfl) (by kernel_rfl) (by kernel_rfl) (fun _ _ _ h => h) (Or.inl ⟨by kernel_rfl, by intro w hSw; (try dsimp only at hSw); go_simp; try with_reducible rfl⟩) (by assumption) ?_
        simp only [Act.put, List.setIfInBounds_toArray, List.set_cons_zero, List.set_cons_succ]
        refine wpAnyH_done (by kernel_rfl) ?_ _
      rotate_left 1
      focus
        go_simp
        refine hK.out _ _ ?_ (fun hHeld2 => ?_)
        · (first | (try dsimp only); go_keep | (go_split_ands; refine ⟨?_, ?_, ?_⟩ <;> first | exact keepB bx5 (by assumption) | exact keepB bx4 (by assumption) | exact keepB bx3 (by assumption) | exact keepB bx2 (by assumption) | exact keepB bx1 (by assumption) | exact keepO bo5 (by first | (simp; done) | (simp; omega)) (by assumption) | exact keepO bo4 (by first | (simp; done) | (simp; omega)) (by assumption) | exact keepO bo3 (by first | (simp; done) | (simp; omega)) (by assumption) | exact keepO bo2 (by first | (simp; done) | (simp; omega)) (by assumption) | exact keepO bo1 (by first | (simp; done) | (simp; omega)) (by assumption) | exact keepW bg2 (by first | (simp; done) | (simp; omega)) (by assumption) | exact keepW bg1 (by first | (simp; done) | (simp; omega)) (by assumption) | assumption))
        clear hK K hHeld
        have hHeld := hHeld2
        clear hHeld2
        try simp only [Act.put, List.setIfInBounds_toArray, List.set_cons_zero, List.set_cons_succ]
        refine wpAnyH_ready (rs := [4]) (by kernel_rfl) (by simp) ?_
        refine AllReadyH.cons (o := ⟨some 41, _, _, _, _, _⟩) rfl (fun K hK => ?_) AllReadyH.nil
        go_simp
        go_at_call 92
        obtain ⟨wz, hwz⟩ : ∃ wz, wz = ((w5.alloc (.cells #[.int .i64 0, .int .i64 1, .int .i64 2, .int .i64 (-1), .int .i64 9] 3)).alloc (.cells #[.int .i64 0, .int .i64 3, .int .i64 5, .int .i64 (-1), .int .i64 9] 3)).drew := ⟨_, rfl⟩
        have oa : OwnI wz w5.heap.size 3 (.slice (some ⟨w5.heap.size, 0, none⟩) 5 5) [0, 1, 2, -1, 9] := by rw [hwz]; exact ((lit_own w5 3 [0, 1, 2, -1, 9] (by simp) (by unfold I64; simp)).alloc _).drew
        have ob : OwnI wz (w5.heap.size + 1) 3 (.slice (some ⟨w5.heap.size + 1, 0, none⟩) 5 5) [0, 3, 5, -1, 9] := by rw [hwz]; have h9 := (lit_own (w5.alloc (.cells #[.int .i64 0, .int .i64 1, .int .i64 2, .int .i64 (-1), .int .i64 9] 3)) 3 [0, 3, 5, -1, 9] (by simp) (by unfold I64; simp)).drew; simpa using h9
        have bz : Below w5.heap.size w5 wz := by rw [hwz]; exact (((Below.refl _ _).alloc (Nat.le_refl _) _).alloc (by simp) _).trans ((Qt.one _ 1).below _)
        have hzz : w5.heap.size + 2 ≤ wz.heap.size := by rw [hwz]; simp
        rw [← hwz]
        clear hwz
        have gz := grown_below bz (some G)
        replace c00 := keepW gz (by first | (simp; done) | (simp; omega)) c00; replace c01 := keepW gz (by first | (simp; done) | (simp; omega)) c01; replace c02 := keepW gz (by first | (simp; done) | (simp; omega)) c02; replace x0 := keepW gz (by first | (simp; done) | (simp; omega)) x0; replace x1 := keepW gz (by first | (simp; done) | (simp; omega)) x1; replace x2 := keepW gz (by first | (simp; done) | (simp; omega)) x2
        replace f00 := keepWF gz (by first | (simp; done) | (simp; omega)) f00; replace f01 := keepWF gz (by first | (simp; done) | (simp; omega)) f01; replace f02 := keepWF gz (by first | (simp; done) | (simp; omega)) f02
        refine (one_any G k3 G _ _ rv _ [0, 1, 2, -1, 9] wz (hrT.below bz) oa.ints (.inr (by omega)) hkT (by simp) (by simp)).mono ?_
        rintro e wc ⟨y, rfl, hy, hrc, bo1⟩
        have hy1 : -1 ≤ y ∧ y ≤ 9 := by simp only [List.mem_cons, List.not_mem_nil, or_false] at hy; omega
        have gb1 := grown_only bo1
        have bg2 := grown_trans gz gb1
        have hzc := bg2.size
        have o3 := ob.kept (bo1.kept (.inr (by omega)))
        replace c00 := keepW gb1 (by first | (simp; done) | (simp; omega)) c00; replace c01 := keepW gb1 (by first | (simp; done) | (simp; omega)) c01; replace c02 := keepW gb1 (by first | (simp; done) | (simp; omega)) c02; replace x0 := keepW gb1 (by first | (simp; done) | (simp; omega)) x0; replace x1 := keepW gb1 (by first | (simp; done) | (simp; omega)) x1; replace x2 := keepW gb1 (by first | (simp; done) | (simp; omega)) x2
        replace f00 := keepWF gb1 (by first | (simp; done) | (simp; omega)) f00; replace f01 := keepWF gb1 (by first | (simp; done) | (simp; omega)) f01; replace f02 := keepWF gb1 (by first | (simp; done) | (simp; omega)) f02
        go_wp2_with fail
        refine hK.out _ _ ?_ (fun hHeld2 => ?_)
        · (first | (try dsimp only); go_keep | (go_split_ands; refine ⟨?_, ?_, ?_⟩ <;> first | exact keepB bx5 (by assumption) | exact keepB bx4 (by assumption) | exact keepB bx3 (by assumption) | exact keepB bx2 (by assumption) | exact keepB bx1 (by assumption) | exact keepO bo5 (by first | (simp; done) | (simp; omega)) (by assumption) | exact keepO bo4 (by first | (simp; done) | (simp; omega)) (by assumption) | exact keepO bo3 (by first | (simp; done) | (simp; omega)) (by assumption) | exact keepO bo2 (by first | (simp; done) | (simp; omega)) (by assumption) | exact keepO bo1 (by first | (simp; done) | (simp; omega)) (by assumption) | exact keepW bg2 (by first | (simp; done) | (simp; omega)) (by assumption) | exact keepW bg1 (by first | (simp; done) | (simp; omega)) (by assumption) | assumption))
        clear hK K hHeld
        have hHeld := hHeld2
        clear hHeld2
        try simp only [Act.put, List.setIfInBounds_toArray, List.set_cons_zero, List.set_cons_succ]
        refine wpAnyH_ready (rs := [7]) (by kernel_rfl) (by simp) ?_
        refine AllReadyH.cons (o := ⟨some 44, _, _, _, _, _⟩) rfl (fun K hK => ?_) AllReadyH.nil
        go_simp
        go_at_call 92
        refine (one_any G (k3 + 1) G _ _ rv _ [0, 3, 5, -1, 9] wc hrc o3.ints (.inr (by omega)) (by omega) (by simp) (by simp)).mono ?_
        rintro e wd ⟨z, rfl, hz, hrd, bo2⟩
        have hz1 : -1 ≤ z ∧ z ≤ 9 := by simp only [List.mem_cons, List.not_mem_nil, or_false] at hz; omega
        have gb2 := grown_only bo2
        have bgd := grown_trans bg2 gb2
        replace c00 := keepW gb2 (by first | (simp; done) | (simp; omega)) c00; replace c01 := keepW gb2 (by first | (simp; done) | (simp; omega)) c01; replace c02 := keepW gb2 (by first | (simp; done) | (simp; omega)) c02; replace x0 := keepW gb2 (by first | (simp; done) | (simp; omega)) x0; replace x1 := keepW gb2 (by first | (simp; done) | (simp; omega)) x1; replace x2 := keepW gb2 (by first | (simp; done) | (simp; omega)) x2
        replace f00 := keepWF gb2 (by first | (simp; done) | (simp; omega)) f00; replace f01 := keepWF gb2 (by first | (simp; done) | (simp; omega)) f01; replace f02 := keepWF gb2 (by first | (simp; done) | (simp; omega)) f02
        go_wp2_with fail
        refine hK.out _ _ ?_ (fun hHeld2 => ?_)
        · (first | (try dsimp only); go_keep | (go_split_ands; refine ⟨?_, ?_, ?_⟩ <;> first | exact keepB bx5 (by assumption) | exact keepB bx4 (by assumption) | exact keepB bx3 (by assumption) | exact keepB bx2 (by assumption) | exact keepB bx1 (by assumption) | exact keepO bo5 (by first | (simp; done) | (simp; omega)) (by assumption) | exact keepO bo4 (by first | (simp; done) | (simp; omega)) (by assumption) | exact keepO bo3 (by first | (simp; done) | (simp; omega)) (by assumption) | exact keepO bo2 (by first | (simp; done) | (simp; omega)) (by assumption) | exact keepO bo1 (by first | (simp; done) | (simp; omega)) (by assumption) | exact keepW bg2 (by first | (simp; done) | (simp; omega)) (by assumption) | exact keepW bg1 (by first | (simp; done) | (simp; omega)) (by assumption) | assumption))
        clear hK K hHeld
        have hHeld := hHeld2
        clear hHeld2
        try simp only [Act.put, List.setIfInBounds_toArray, List.set_cons_zero, List.set_cons_succ]
        refine wpAnyH_ready (rs := [8]) (by kernel_rfl) (by simp) ?_
        refine AllReadyH.cons (o := ⟨none, _, _, _, _, _⟩) rfl (fun K hK => ?_) AllReadyH.nil
        go_simp
        refine hK.out _ _ ?_ (fun hHeld2 => ?_)
        · (first | (try dsimp only); go_keep | (go_split_ands; refine ⟨?_, ?_, ?_⟩ <;> first | exact keepB bx5 (by assumption) | exact keepB bx4 (by assumption) | exact keepB bx3 (by assumption) | exact keepB bx2 (by assumption) | exact keepB bx1 (by assumption) | exact keepO bo5 (by first | (simp; done) | (simp; omega)) (by assumption) | exact keepO bo4 (by first | (simp; done) | (simp; omega)) (by assumption) | exact keepO bo3 (by first | (simp; done) | (simp; omega)) (by assumption) | exact keepO bo2 (by first | (simp; done) | (simp; omega)) (by assumption) | exact keepO bo1 (by first | (simp; done) | (simp; omega)) (by assumption) | exact keepW bg2 (by first | (simp; done) | (simp; omega)) (by assumption) | exact keepW bg1 (by first | (simp; done) | (simp; omega)) (by assumption) | assumption))
        clear hK K hHeld
        have hHeld := hHeld2
        clear hHeld2
        try simp only [Act.put, List.setIfInBounds_toArray, List.set_cons_zero, List.set_cons_succ]
        refine wpAnyH_take (i := 9) (oi := ⟨some 3, _, _, _, _, _⟩) (v := _) rfl (by kernel_rfl) (by kernel_rfl) (by kernel_rfl) (fun _ _ _ h => h) (Or.inl ⟨by kernel_rfl, by intro w hSw; (try dsimp only at hSw); go_simp; try with_reducible rfl⟩) (by assumption) ?_
        simp only [Act.put, List.setIfInBounds_toArray, List.set_cons_zero, List.set_cons_succ]
        refine wpAnyH_take (i := 10) (oi := ⟨some 4, _, _, _, _, _⟩) (v := _) rfl (by kernel_rfl) (by kernel_rfl) (by kernel_rfl) (fun _ _ _ h => h) (Or.inl ⟨by kernel_rfl, by intro w hSw; (try dsimp only at hSw); go_simp; try with_reducible rfl⟩) (by assumption) ?_
        simp only [Act.put, List.setIfInBounds_toArray, List.set_cons_zero, List.set_cons_succ]
        refine wpAnyH_take (i := 11) (oi := ⟨some 5, _, _, _, _, _⟩) (v := _) rfl (by kernel_rfl) (by kernel_rfl) (by kernel_rfl) (fun _ _ _ h => h) (Or.inl ⟨by kernel_rfl, by intro w hSw; (try dsimp only at hSw); go_simp; try with_reducible rfl⟩) (by assumption) ?_
        simp only [Act.put, List.setIfInBounds_toArray, List.set_cons_zero, List.set_cons_succ]
        refine wpAnyH_done (by kernel_rfl) ?_ _
      rotate_left 1
    rotate_left 2
    focus
      go_simp
      refine hK.out _ _ ?_ (fun hHeld2 => ?_)
      · (first | (try dsimp only); go_keep | (go_split_ands; refine ⟨?_, ?_, ?_⟩ <;> first | exact keepB bx5 (by assumption) | exact keepB bx4 (by assumption) | exact keepB bx3 (by assumption) | exact keepB bx2 (by assumption) | exact keepB bx1 (by assumption) | exact keepO bo5 (by first | (simp; done) | (simp; omega)) (by assumption) | exact keepO bo4 (by first | (simp; done) | (simp; omega)) (by assumption) | exact keepO bo3 (by first | (simp; done) | (simp; omega)) (by assumption) | exact keepO bo2 (by first | (simp; done) | (simp; omega)) (by assumption) | exact keepO bo1 (by first | (simp; done) | (simp; omega)) (by assumption) | exact keepW bg2 (by first | (simp; done) | (simp; omega)) (by assumption) | exact keepW bg1 (by first | (simp; done) | (simp; omega)) (by assumption) | assumption))
      clear hK K hHeld
      have hHeld := hHeld2
      clear hHeld2
      try simp only [Act.put, List.setIfInBounds_toArray, List.set_cons_zero, List.set_cons_succ]
      refine wpAnyH_ready (rs := [3]) (by kernel_rfl) (by simp) ?_
      refine AllReadyH.cons (o := ⟨some 40, _, _, _, _, _⟩) rfl (fun K hK => ?_) AllReadyH.nil
      go_simp
      refine hK.out _ _ ?_ (fun hHeld2 => ?_)
      · (first | (try dsimp only); go_keep | (go_split_ands; refine ⟨?_, ?_, ?_⟩ <;> first | exact keepB bx5 (by assumption) | exact keepB bx4 (by assumption) | exact keepB bx3 (by assumption) | exact keepB bx2 (by assumption) | exact keepB bx1 (by assumption) | exact keepO bo5 (by first | (simp; done) | (simp; omega)) (by assumption) | exact keepO bo4 (by first | (simp; done) | (simp; omega)) (by assumption) | exact keepO bo3 (by first | (simp; done) | (simp; omega)) (by assumption) | exact keepO bo2 (by first | (simp; done) | (simp; omega)) (by assumption) | exact keepO bo1 (by first | (simp; done) | (simp; omega)) (by assumption) | exact keepW bg2 (by first | (simp; done) | (simp; omega)) (by assumption) | exact keepW bg1 (by first | (simp; done) | (simp; omega)) (by assumption) | assumption))
      clear hK K hHeld
      have hHeld := hHeld2
      clear hHeld2
      try simp only [Act.put, List.setIfInBounds_toArray, List.set_cons_zero, List.set_cons_succ]
      refine wpAnyH_ready (rs := [4]) (by kernel_rfl) (by simp) ?_
      refine AllReadyH.cons (o := ⟨some 41, _, _, _, _, _⟩) rfl (fun K hK => ?_) AllReadyH.nil
      go_simp
      go_at_call 92
      obtain ⟨wz, hwz⟩ : ∃ wz, wz = ((w5.alloc (.cells #[.int .i64 0, .int .i64 3, .int .i64 5, .int .i64 (-1), .int .i64 9] 3)).alloc (.cells #[.int .i64 0, .int .i64 1, .int .i64 2, .int .i64 (-1), .int .i64 9] 3)).drew := ⟨_, rfl⟩
      have oa : OwnI wz w5.heap.size 3 (.slice (some ⟨w5.heap.size, 0, none⟩) 5 5) [0, 3, 5, -1, 9] := by rw [hwz]; exact ((lit_own w5 3 [0, 3, 5, -1, 9] (by simp) (by unfold I64; simp)).alloc _).drew
      have ob : OwnI wz (w5.heap.size + 1) 3 (.slice (some ⟨w5.heap.size + 1, 0, none⟩) 5 5) [0, 1, 2, -1, 9] := by rw [hwz]; have h9 := (lit_own (w5.alloc (.cells #[.int .i64 0, .int .i64 3, .int .i64 5, .int .i64 (-1), .int .i64 9] 3)) 3 [0, 1, 2, -1, 9] (by simp) (by unfold I64; simp)).drew; simpa using h9
      have bz : Below w5.heap.size w5 wz := by rw [hwz]; exact (((Below.refl _ _).alloc (Nat.le_refl _) _).alloc (by simp) _).trans ((Qt.one _ 1).below _)
      have hzz : w5.heap.size + 2 ≤ wz.heap.size := by rw [hwz]; simp
      rw [← hwz]
      clear hwz
      have gz := grown_below bz (some G)
      replace c00 := keepW gz (by first | (simp; done) | (simp; omega)) c00; replace c01 := keepW gz (by first | (simp; done) | (simp; omega)) c01; replace c02 := keepW gz (by first | (simp; done) | (simp; omega)) c02; replace x0 := keepW gz (by first | (simp; done) | (simp; omega)) x0; replace x1 := keepW gz (by first | (simp; done) | (simp; omega)) x1; replace x2 := keepW gz (by first | (simp; done) | (simp; omega)) x2
      replace f00 := keepWF gz (by first | (simp; done) | (simp; omega)) f00; replace f01 := keepWF gz (by first | (simp; done) | (simp; omega)) f01; replace f02 := keepWF gz (by first | (simp; done) | (simp; omega)) f02
      refine (one_any G k3 G _ _ rv _ [0, 1, 2, -1, 9] wz (hrT.below bz) ob.ints (.inr (by omega)) hkT (by simp) (by simp)).mono ?_
      rintro e wc ⟨y, rfl, hy, hrc, bo1⟩
      have hy1 : -1 ≤ y ∧ y ≤ 9 := by simp only [List.mem_cons, List.not_mem_nil, or_false] at hy; omega
      have gb1 := grown_only bo1
      have bg2 := grown_trans gz gb1
      have hzc := bg2.size
      have o3 := oa.kept (bo1.kept (.inr (by omega)))
      replace c00 := keepW gb1 (by first | (simp; done) | (simp; omega)) c00; replace c01 := keepW gb1 (by first | (simp; done) | (simp; omega)) c01; replace c02 := keepW gb1 (by first | (simp; done) | (simp; omega)) c02; replace x0 := keepW gb1 (by first | (simp; done) | (simp; omega)) x0; replace x1 := keepW gb1 (by first | (simp; done) | (simp; omega)) x1; replace x2 := keepW gb1 (by first | (simp; done) | (simp; omega)) x2
      replace f00 := keepWF gb1 (by first | (simp; done) | (simp; omega)) f00; replace f01 := keepWF gb1 (by first | (simp; done) | (simp; omega)) f01; replace f02 := keepWF gb1 (by first | (simp; done) | (simp; omega)) f02
      go_wp2_with fail
      refine hK.out _ _ ?_ (fun hHeld2 => ?_)
      · (first | (try dsimp only); go_keep | (go_split_ands; refine ⟨?_, ?_, ?_⟩ <;> first | exact keepB bx5 (by assumption) | exact keepB bx4 (by assumption) | exact keepB bx3 (by assumption) | exact keepB bx2 (by assumption) | exact keepB bx1 (by assumption) | exact keepO bo5 (by first | (simp; done) | (simp; omega)) (by assumption) | exact keepO bo4 (by first | (simp; done) | (simp; omega)) (by assumption) | exact keepO bo3 (by first | (simp; done) | (simp; omega)) (by assumption) | exact keepO bo2 (by first | (simp; done) | (simp; omega)) (by assumption) | exact keepO bo1 (by first | (simp; done) | (simp; omega)) (by assumption) | exact keepW bg2 (by first | (simp; done) | (simp; omega)) (by assumption) | exact keepW bg1 (by first | (simp; done) | (simp; omega)) (by assumption) | assumption))
      clear hK K hHeld
      have hHeld := hHeld2
      clear hHeld2
      try simp only [Act.put, List.setIfInBounds_toArray, List.set_cons_zero, List.set_cons_succ]
      refine wpAnyH_ready (rs := [7]) (by kernel_rfl) (by simp) ?_
      refine AllReadyH.cons (o := ⟨some 44, _, _, _, _, _⟩) rfl (fun K hK => ?_) AllReadyH.nil
      go_simp
      go_at_call 92
      refine (one_any G (k3 + 1) G _ _ rv _ [0, 3, 5, -1, 9] wc hrc o3.ints (.inr (by omega)) (by omega) (by simp) (by simp)).mono ?_
      rintro e wd ⟨z, rfl, hz, hrd, bo2⟩
      have hz1 : -1 ≤ z ∧ z ≤ 9 := by simp only [List.mem_cons, List.not_mem_nil, or_false] at hz; omega
      have gb2 := grown_only bo2
      have bgd := grown_trans bg2 gb2
      replace c00 := keepW gb2 (by first | (simp; done) | (simp; omega)) c00; replace c01 := keepW gb2 (by first | (simp; done) | (simp; omega)) c01; replace c02 := keepW gb2 (by first | (simp; done) | (simp; omega)) c02; replace x0 := keepW gb2 (by first | (simp; done) | (simp; omega)) x0; replace x1 := keepW gb2 (by first | (simp; done) | (simp; omega)) x1; replace x2 := keepW gb2 (by first | (simp; done) | (simp; omega)) x2
      replace f00 := keepWF gb2 (by first | (simp; done) | (simp; omega)) f00; replace f01 := keepWF gb2 (by first | (simp; done) | (simp; omega)) f01; replace f02 := keepWF gb2 (by first | (simp; done) | (simp; omega)) f02
      go_wp2_with fail
      refine hK.out _ _ ?_ (fun hHeld2 => ?_)
      · (first | (try dsimp only); go_keep | (go_split_ands; refine ⟨?_, ?_, ?_⟩ <;> first | exact keepB bx5 (by assumption) | exact keepB bx4 (by assumption) | exact keepB bx3 (by assumption) | exact keepB bx2 (by assumption) | exact keepB bx1 (by assumption) | exact keepO bo5 (by first | (simp; done) | (simp; omega)) (by assumption) | exact keepO bo4 (by first | (simp; done) | (simp; omega)) (by assumption) | exact keepO bo3 (by first | (simp; done) | (simp; omega)) (by assumption) | exact keepO bo2 (by first | (simp; done) | (simp; omega)) (by assumption) | exact keepO bo1 (by first | (simp; done) | (simp; omega)) (by assumption) | exact keepW bg2 (by first | (simp; done) | (simp; omega)) (by assumption) | exact keepW bg1 (by first | (simp; done) | (simp; omega)) (by assumption) | assumption))
      clear hK K hHeld
      have hHeld := hHeld2
      clear hHeld2
      try simp only [Act.put, List.setIfInBounds_toArray, List.set_cons_zero, List.set_cons_succ]
      refine wpAnyH_ready (rs := [8]) (by kernel_rfl) (by simp) ?_
      refine AllReadyH.cons (o := ⟨none, _, _, _, _, _⟩) rfl (fun K hK => ?_) AllReadyH.nil
      go_simp
      refine hK.out _ _ ?_ (fun hHeld2 => ?_)
      · (first | (try dsimp only); go_keep | (go_split_ands; refine ⟨?_, ?_, ?_⟩ <;> first | exact keepB bx5 (by assumption) | exact keepB bx4 (by assumption) | exact keepB bx3 (by assumption) | exact keepB bx2 (by assumption) | exact keepB bx1 (by assumption) | exact keepO bo5 (by first | (simp; done) | (simp; omega)) (by assumption) | exact keepO bo4 (by first | (simp; done) | (simp; omega)) (by assumption) | exact keepO bo3 (by first | (simp; done) | (simp; omega)) (by assumption) | exact keepO bo2 (by first | (simp; done) | (simp; omega)) (by assumption) | exact keepO bo1 (by first | (simp; done) | (simp; omega)) (by assumption) | exact keepW bg2 (by first | (simp; done) | (simp; omega)) (by assumption) | exact keepW bg1 (by first | (simp; done) | (simp; omega)) (by assumption) | assumption))
      clear hK K hHeld
      have hHeld := hHeld2
      clear hHeld2
      try simp only [Act.put, List.setIfInBounds_toArray, List.set_cons_zero, List.set_cons_succ]
      refine wpAnyH_take (i := 9) (oi := ⟨some 3, _, _, _, _, _⟩) (v := _) rfl (by kernel_rfl) (by kernel_rfl) (by kernel_rfl) (fun _ _ _ h => h) (Or.inl ⟨by kernel_rfl, by intro w hSw; (try dsimp only at hSw); go_simp; try with_reducible rfl⟩) (by assumption) ?_
      simp only [Act.put, List.setIfInBounds_toArray, List.set_cons_zero, List.set_cons_succ]
      refine wpAnyH_take (i := 10) (oi := ⟨some 4, _, _, _, _, _⟩) (v := _) rfl (by kernel_rfl) (by kernel_rfl) (by kernel_rfl) (fun _ _ _ h => h) (Or.inl ⟨by kernel_rfl, by intro w hSw; (try dsimp only at hSw); go_simp; try with_reducible rfl⟩) (by assumption) ?_
      simp only [Act.put, List.setIfInBounds_toArray, List.set_cons_zero, List.set_cons_succ]
      refine wpAnyH_take (i := 11) (oi := ⟨some 5, _, _, _, _, _⟩) (v := _) rfl (by kernel_rfl) (by kernel_rfl) (by kernel_rfl) (fun _ _ _ h => h) (Or.inl ⟨by kernel_rfl, by intro w hSw; (try dsimp only at hSw); go_simp; try with_reducible rfl⟩) (by assumption) ?_
      simp only [Act.put, List.setIfInBounds_toArray, List.set_cons_zero, List.set_cons_succ]
      refine wpAnyH_done (by kernel_rfl) ?_ _
    rotate_left 1
    all_goals
      have hbc := hbT.trans (below_of_grown bgd (B := w.heap.size) (by omega) (by omega))
      go_wp2
      refine bodyPost_ret (v := .tuple #[.agg #[.int .i64 W, .int .i64 L, .slice A ds.length c], .slice A2 ps.length c2, .int .i64 y, .int .i64 z]) (by simp [results, Try.results54, go_sem, *]) rfl ⟨W, L, _, _, ds, ps, y, z, rfl, ?_, ?_, hy1, hz1, ((hbc.setCell (Nat.le_refl _) _).setCell (Nat.le_refl _) _).setCell (Nat.le_refl _) _⟩
      · exact ((((HoT.out.kept (Kept.of_grown bgd (Nat.le_refl _) (.inl (by omega)))).setBelow (by show w.heap.size < _; omega) _).setBelow (by show w.heap.size < _; omega) _).setBelow (by show w.heap.size < _; omega) _).base (by omega)
      · exact ((((HpT.out.kept (Kept.of_grown bgd (Nat.le_refl _) (.inl (by omega)))).setBelow (by show w.heap.size < _; omega) _).setBelow (by show w.heap.size < _; omega) _).setBelow (by show w.heap.size < _; omega) _).base (by omega)
  · have hrg := vReel_rng hvr
    clear hvr
    go_wp2_with fail
    refine (pick_any G k3 G rv 2 w5 hr5 (by omega) (by omega)).mono ?_
    rintro e w6 ⟨p0, rfl, hp0, hr6, bo⟩
    replace c00 := keepO bo (by first | (simp; done) | (simp; omega)) c00; replace c01 := keepO bo (by first | (simp; done) | (simp; omega)) c01; replace c02 := keepO bo (by first | (simp; done) | (simp; omega)) c02; replace x0 := keepO bo (by first | (simp; done) | (simp; omega)) x0; replace x1 := keepO bo (by first | (simp; done) | (simp; omega)) x1; replace x2 := keepO bo (by first | (simp; done) | (simp; omega)) x2
    replace f00 := keepOF bo (by first | (simp; done) | (simp; omega)) f00; replace f01 := keepOF bo (by first | (simp; done) | (simp; omega)) f01; replace f02 := keepOF bo (by first | (simp; done) | (simp; omega)) f02
    have Ho6 := Lib.hid (Ho5.out.kept (bo.kept (.inr (by omega))))
    have Hp6 := Lib.hid (Hp5.out.kept (bo.kept (.inr (by omega))))
    have hb6 := hb5.trans (below_of_grown (grown_only bo) (by omega) (by omega))
    have hz6 : w3.heap.size + 1 ≤ w6.heap.size := by have := bo.size; omega
    have hk6 : k3 + 1 ≤ 1000000 := by omega
    clear hr5 Ho5 Hp5 hb5 hz5 bo hp0
    obtain ⟨e0, he0⟩ : ∃ e, (p0 == 0) = e := ⟨_, rfl⟩
    cases e0
    · 
      have hrT := hr6
      have hkT : _ ≤ 1000000 := hk6
      have HoT := Lib.hid (Ho6.out)
      have HpT := Lib.hid (Hp6.out)
      have hbT := hb6
      have hzT : w3.heap.size + 1 ≤ w6.heap.size := hz6
      clear hr6 hk6 Ho6 Hp6 hb6 hz6
      have hne1 : ¬ w3.heap.size = w.heap.size := by omega
      have hne2 : ¬ w.heap.size = w3.heap.size := by omega
      go_wp2
      refine wp_region_held_drew (S := fun w' => w'.cell? ⟨w3.heap.size, 0, none⟩ = some (.int .i64 W) ∧ w'.cell? ⟨w3.heap.size, 1, none⟩ = some (.int .i64 L) ∧ w'.cell? ⟨w3.heap.size, 2, none⟩ = some (.slice A ds.length c)) (by kernel_rfl) ?_ (fun hHeld => ?_)
      · (first | (try dsimp only); go_keep | (go_split_ands; refine ⟨?_, ?_, ?_⟩ <;> first | exact keepB bx5 (by assumption) | exact keepB bx4 (by assumption) | exact keepB bx3 (by assumption) | exact keepB bx2 (by assumption) | exact keepB bx1 (by assumption) | exact keepO bo5 (by first | (simp; done) | (simp; omega)) (by assumption) | exact keepO bo4 (by first | (simp; done) | (simp; omega)) (by assumption) | exact keepO bo3 (by first | (simp; done) | (simp; omega)) (by assumption) | exact keepO bo2 (by first | (simp; done) | (simp; omega)) (by assumption) | exact keepO bo1 (by first | (simp; done) | (simp; omega)) (by assumption) | exact keepW bg2 (by first | (simp; done) | (simp; omega)) (by assumption) | exact keepW bg1 (by first | (simp; done) | (simp; omega)) (by assumption) | assumption))
      refine wpAnyH_take (i := 0) (oi := ⟨some 37, _, _, _, _, _⟩) (v := _) rfl (by kernel_rfl) (by kernel_rfl) (by kernel_rfl) (fun _ _ _ h => h) (Or.inl ⟨by kernel_rfl, by intro w hSw; (try dsimp only at hSw); go_simp; try with_reducible rfl⟩) (by assumption) ?_
      simp only [Act.put, List.setIfInBounds_toArray, List.set_cons_zero, List.set_cons_succ]
      refine wpAnyH_take (i := 1) (oi := ⟨some 38, _, _, _, _, _⟩) (v := _) rfl (by kernel_rfl) (by kernel_rfl) (by kernel_rfl) (fun _ _ _ h => h) (Or.inl ⟨by kernel_rfl, by intro w hSw; (try dsimp only at hSw); go_simp; try with_reducible rfl⟩) (by assumption) ?_
      simp only [Act.put, List.setIfInBounds_toArray, List.set_cons_zero, List.set_cons_succ]
      refine wpAnyH_take (i := 2) (oi := ⟨some 39, _, _, _, _, _⟩) (v := _) rfl (by kernel_rfl) (by kernel_rfl) (by kernel_rfl) (fun _ _ _ h => h) (Or.inl ⟨by kernel_rfl, by intro w hSw; (try dsimp only at hSw); go_simp; try with_reducible rfl⟩) (by assumption) ?_
      simp only [Act.put, List.setIfInBounds_toArray, List.set_cons_zero, List.set_cons_succ]
      refine wpAnyH_take (i := 5) (oi := ⟨some 42, _, _, _, _, _⟩) (v := _) rfl (by kernel_rfl) (by kernel_rfl) (by kernel_rfl) (fun _ _ _ h => h) (Or.inl ⟨by kernel_rfl, by intro w hSw; (try dsimp only at hSw); go_simp; try with_reducible rfl⟩) (by assumption) ?_
      simp only [Act.put, List.setIfInBounds_toArray, List.set_cons_zero, List.set_cons_succ]
      refine wpAnyH_ready (rs := [3, 6]) (by kernel_rfl) (by simp) (AllReadyH.cons (o := ⟨some 40, _, _, _, _, _⟩) rfl (fun K hK => ?_) (AllReadyH.cons (o := ⟨some 43, _, _, _, _, _⟩) rfl (fun K hK => ?_) (AllReadyH.nil)))
      focus
        go_simp
        refine hK.out _ _ ?_ (fun hHeld2 => ?_)
        · (first | (try dsimp only); go_keep | (go_split_ands; refine ⟨?_, ?_, ?_⟩ <;> first | exact keepB bx5 (by assumption) | exact keepB bx4 (by assumption) | exact keepB bx3 (by assumption) | exact keepB bx2 (by assumption) | exact keepB bx1 (by assumption) | exact keepO bo5 (by first | (simp; done) | (simp; omega)) (by assumption) | exact keepO bo4 (by first | (simp; done) | (simp; omega)) (by assumption) | exact keepO bo3 (by first | (simp; done) | (simp; omega)) (by assumption) | exact keepO bo2 (by first | (simp; done) | (simp; omega)) (by assumption) | exact keepO bo1 (by first | (simp; done) | (simp; omega)) (by assumption) | exact keepW bg2 (by first | (simp; done) | (simp; omega)) (by assumption) | exact keepW bg1 (by first | (simp; done) | (simp; omega)) (by assumption) | assumption))
        clear hK K hHeld
        have hHeld := hHeld2
        clear hHeld2
        try simp only [Act.put, List.setIfInBounds_toArray, List.set_cons_zero, List.set_cons_succ]
        refine wpAnyH_ready (rs := [4, 6]) (by kernel_rfl) (by simp) (AllReadyH.cons (o := ⟨some 41, _, _, _, _, _⟩) rfl (fun K hK => ?_) (AllReadyH.cons (o := ⟨some 43, _, _, _, _, _⟩) rfl (fun K hK => ?_) (AllReadyH.nil)))
        focus
          go_simp
          go_at_call 92
          rw [show (w6.alloc (.cells #[.int .i64 0, .int .i64 1, .int .i64 2, .int .i64 (-1), .int .i64 9] 3)).drew = w6.drew.alloc (.cells #[.int .i64 0, .int .i64 1, .int .i64 2, .int .i64 (-1), .int .i64 9] 3) from rfl]
          refine (one_lit G (k3 + 1) G rv [0, 1, 2, -1, 9] w6.drew _ 5 w6.heap.size hrT.drew hkT rfl rfl rfl (by simp) (by simp) (by unfold I64; simp)).mono ?_
          rintro e wc ⟨y, rfl, hy, hrc, bg3⟩
          have hy1 : -1 ≤ y ∧ y ≤ 9 := by simp only [List.mem_cons, List.not_mem_nil, or_false] at hy; omega
          have bg2 := grown_drew bg3
          have hzc := bg2.size
          replace c00 := keepW bg2 (by first | (simp; done) | (simp; omega)) c00; replace c01 := keepW bg2 (by first | (simp; done) | (simp; omega)) c01; replace c02 := keepW bg2 (by first | (simp; done) | (simp; omega)) c02; replace x0 := keepW bg2 (by first | (simp; done) | (simp; omega)) x0; replace x1 := keepW bg2 (by first | (simp; done) | (simp; omega)) x1; replace x2 := keepW bg2 (by first | (simp; done) | (simp; omega)) x2
          replace f00 := keepWF bg2 (by first | (simp; done) | (simp; omega)) f00; replace f01 := keepWF bg2 (by first | (simp; done) | (simp; omega)) f01; replace f02 := keepWF bg2 (by first | (simp; done) | (simp; omega)) f02
          go_wp2_with fail
          refine hK.out _ _ ?_ (fun hHeld2 => ?_)
          · (first | (try dsimp only); go_keep | (go_split_ands; refine ⟨?_, ?_, ?_⟩ <;> first | exact keepB bx5 (by assumption) | exact keepB bx4 (by assumption) | exact keepB bx3 (by assumption) | exact keepB bx2 (by assumption) | exact keepB bx1 (by assumption) | exact keepO bo5 (by first | (simp; done) | (simp; omega)) (by assumption) | exact keepO bo4 (by first | (simp; done) | (simp; omega)) (by assumption) | exact keepO bo3 (by first | (simp; done) | (simp; omega)) (by assumption) | exact keepO bo2 (by first | (simp; done) | (simp; omega)) (by assumption) | exact keepO bo1 (by first | (simp; done) | (simp; omega)) (by assumption) | exact keepW bg2 (by first | (simp; done) | (simp; omega)) (by assumption) | exact keepW bg1 (by first | (simp; done) | (simp; omega)) (by assumption) | assumption))
          clear hK K hHeld
          have hHeld := hHeld2
          clear hHeld2
          try simp only [Act.put, List.setIfInBounds_toArray, List.set_cons_zero, List.set_cons_succ]
          refine wpAnyH_ready (rs := [6]) (by kernel_rfl) (by simp) ?_
          refine AllReadyH.cons (o := ⟨some 43, _, _, _, _, _⟩) rfl (fun K hK => ?_) AllReadyH.nil
          go_simp
          refine hK.out _ _ ?_ (fun hHeld2 => ?_)
          · (first | (try dsimp only); go_keep | (go_split_ands; refine ⟨?_, ?_, ?_⟩ <;> first | exact keepB bx5 (by assumption) | exact keepB bx4 (by assumption) | exact keepB bx3 (by assumption) | exact keepB bx2 (by assumption) | exact keepB bx1 (by assumption) | exact keepO bo5 (by first | (simp; done) | (simp; omega)) (by assumption) | exact keepO bo4 (by first | (simp; done) | (simp; omega)) (by assumption) | exact keepO bo3 (by first | (simp; done) | (simp; omega)) (by assumption) | exact keepO bo2 (by first | (simp; done) | (simp; omega)) (by assumption) | exact keepO bo1 (by first | (simp; done) | (simp; omega)) (by assumption) | exact keepW bg2 (by first | (simp; done) | (simp; omega)) (by assumption) | exact keepW bg1 (by first | (simp; done) | (simp; omega)) (by assumption) | assumption))
          clear hK K hHeld
          have hHeld := hHeld2
          clear hHeld2
          try simp only [Act.put, List.setIfInBounds_toArray, List.set_cons_zero, List.set_cons_succ]
          refine wpAnyH_ready (rs := [7]) (by kernel_rfl) (by simp) ?_
          refine AllReadyH.cons (o := ⟨some 44, _, _, _, _, _⟩) rfl (fun K hK => ?_) AllReadyH.nil
          go_simp
          go_at_call 92
          refine (one_lit G ((k3 + 1) + 1) G rv [0, 3, 5, -1, 9] wc _ 5 wc.heap.size hrc (by omega) rfl rfl rfl (by simp) (by simp) (by unfold I64; simp)).mono ?_
          rintro e wd ⟨z, rfl, hz, hrd, bg4⟩
          have hz1 : -1 ≤ z ∧ z ≤ 9 := by simp only [List.mem_cons, List.not_mem_nil, or_false] at hz; omega
          have bgd := grown_trans bg2 bg4
          replace c00 := keepW bg4 (by first | (simp; done) | (simp; omega)) c00; replace c01 := keepW bg4 (by first | (simp; done) | (simp; omega)) c01; replace c02 := keepW bg4 (by first | (simp; done) | (simp; omega)) c02; replace x0 := keepW bg4 (by first | (simp; done) | (simp; omega)) x0; replace x1 := keepW bg4 (by first | (simp; done) | (simp; omega)) x1; replace x2 := keepW bg4 (by first | (simp; done) | (simp; omega)) x2
          replace f00 := keepWF bg4 (by first | (simp; done) | (simp; omega)) f00; replace f01 := keepWF bg4 (by first | (simp; done) | (simp; omega)) f01; replace f02 := keepWF bg4 (by first | (simp; done) | (simp; omega)) f02
          go_wp2_with fail
          refine hK.out _ _ ?_ (fun hHeld2 => ?_)
          · (first | (try dsimp only); go_keep | (go_split_ands; refine ⟨?_, ?_, ?_⟩ <;> first | exact keepB bx5 (by assumption) | exact keepB bx4 (by assumption) | exact keepB bx3 (by assumption) | exact keepB bx2 (by assumption) | exact keepB bx1 (by assumption) | exact keepO bo5 (by first | (simp; done) | (simp; omega)) (by assumption) | exact keepO bo4 (by first | (simp; done) | (simp; omega)) (by assumption) | exact keepO bo3 (by first | (simp; done) | (simp; omega)) (by assumption) | exact keepO bo2 (by first | (simp; done) | (simp; omega)) (by assumption) | exact keepO bo1 (by first | (simp; done) | (simp; omega)) (by assumption) | exact keepW bg2 (by first | (simp; done) | (simp; omega)) (by assumption) | exact keepW bg1 (by first | (simp; done) | (simp; omega)) (by assumption) | assumption))
          clear hK K hHeld
          have hHeld := hHeld2
          clear hHeld2
          try simp only [Act.put, List.setIfInBounds_toArray, List.set_cons_zero, List.set_cons_succ]
          refine wpAnyH_ready (rs := [8]) (by kernel_rfl) (by simp) ?_
          refine AllReadyH.cons (o := ⟨none, _, _, _, _, _⟩) rfl (fun K hK => ?_) AllReadyH.nil
          go_simp
          refine hK.out _ _ ?_ (fun hHeld2 => ?_)
          · (first | (try dsimp only); go_keep | (go_split_ands; refine ⟨?_, ?_, ?_⟩ <;> first | exact keepB bx5 (by assumption) | exact keepB bx4 (by assumption) | exact keepB bx3 (by assumption) | exact keepB bx2 (by assumption) | exact keepB bx1 (by assumption) | exact keepO bo5 (by first | (simp; done) | (simp; omega)) (by assumption) | exact keepO bo4 (by first | (simp; done) | (simp; omega)) (by assumption) | exact keepO bo3 (by first | (simp; done) | (simp; omega)) (by assumption) | exact keepO bo2 (by first | (simp; done) | (simp; omega)) (by assumption) | exact keepO bo1 (by first | (simp; done) | (simp; omega)) (by assumption) | exact keepW bg2 (by first | (simp; done) | (simp; omega)) (by assumption) | exact keepW bg1 (by first | (simp; done) | (simp; omega)) (by assumption) | assumption))
          clear hK K hHeld
          have hHeld := hHeld2
          clear hHeld2
          try simp only [Act.put, List.setIfInBounds_toArray, List.set_cons_zero, List.set_cons_succ]
          refine wpAnyH_take (i := 9) (oi := ⟨some 3, _, _, _, _, _⟩) (v := _) rfl (by kernel_rfl) (by kernel_rfl) (by kernel_rfl) (fun _ _ _ h => h) (Or.inl ⟨by kernel_rfl, by intro w hSw; (try dsimp only at hSw); go_simp; try with_reducible rfl⟩) (by assumption) ?_
          simp only [Act.put, List.setIfInBounds_toArray, List.set_cons_zero, List.set_cons_succ]
          refine wpAnyH_take (i := 10) (oi := ⟨some 4, _, _, _, _, _⟩) (v := _) rfl (by kernel_rfl) (by kernel_rfl) (by kernel_rfl) (fun _ _ _ h => h) (Or.inl ⟨by kernel_rfl, by intro w hSw; (try dsimp only at hSw); go_simp; try with_reducible rfl⟩) (by assumption) ?_
          simp only [Act.put, List.setIfInBounds_toArray, List.set_cons_zero, List.set_cons_succ]
          refine wpAnyH_take (i := 11) (oi := ⟨some 5, _, _, _, _, _⟩) (v := _) rfl (by kernel_rfl) (by kernel_rfl) (by kernel_rfl) (fun _ _ _ h => h) (Or.inl ⟨by kernel_rfl, by intro w hSw; (try dsimp only at hSw); go_simp; try with_reducible rfl⟩) (by assumption) ?_
          simp only [Act.put, List.setIfInBounds_toArray, List.set_cons_zero, List.set_cons_succ]
          refine wpAnyH_done (by kernel_rfl) ?_ _
        rotate_left 1
        focus
          go_simp
          refine hK.out _ _ ?_ (fun hHeld2 => ?_)
          · (first | (try dsimp only); go_keep | (go_split_ands; refine ⟨?_, ?_, ?_⟩ <;> first | exact keepB bx5 (by assumption) | exact keepB bx4 (by assumption) | exact keepB bx3 (by assumption) | exact keepB bx2 (by assumption) | exact keepB bx1 (by assumption) | exact keepO bo5 (by first | (simp; done) | (simp; omega)) (by assumption) | exact keepO bo4 (by first | (simp; done) | (simp; omega)) (by assumption) | exact keepO bo3 (by first | (simp; done) | (simp; omega)) (by assumption) | exact keepO bo2 (by first | (simp; done) | (simp; omega)) (by assumption) | exact keepO bo1 (by first | (simp; done) | (simp; omega)) (by assumption) | exact keepW bg2 (by first | (simp; done) | (simp; omega)) (by assumption) | exact keepW bg1 (by first | (simp; done) | (simp; omega)) (by assumption) | assumption))
          clear hK K hHeld
          have hHeld := hHeld2
          clear hHeld2
          try simp only [Act.put, List.setIfInBounds_toArray, List.set_cons_zero, List.set_cons_succ]
          refine wpAnyH_ready (rs := [4]) (by kernel_rfl) (by simp) ?_
          refine AllReadyH.cons (o := ⟨some 41, _, _, _, _, _⟩) rfl (fun K hK => ?_) AllReadyH.nil
          go_simp
          go_at_call 92
          obtain ⟨wz, hwz⟩ : ∃ wz, wz = ((w6.alloc (.cells #[.int .i64 0, .int .i64 1, .int .i64 2, .int .i64 (-1), .int .i64 9] 3)).alloc (.cells #[.int .i64 0, .int .i64 3, .int .i64 5, .int .i64 (-1), .int .i64 9] 3)).drew := ⟨_, rfl⟩
          have oa : OwnI wz w6.heap.size 3 (.slice (some ⟨w6.heap.size, 0, none⟩) 5 5) [0, 1, 2, -1, 9] := by rw [hwz]; exact ((lit_own w6 3 [0, 1, 2, -1, 9] (by simp) (by unfold I64; simp)).alloc _).drew
          have ob : OwnI wz (w6.heap.size + 1) 3 (.slice (some ⟨w6.heap.size + 1, 0, none⟩) 5 5) [0, 3, 5, -1, 9] := by rw [hwz]; have h9 := (lit_own (w6.alloc (.cells #[.int .i64 0, .int .i64 1, .int .i64 2, .int .i64 (-1), .int .i64 9] 3)) 3 [0, 3, 5, -1, 9] (by simp) (by unfold I64; simp)).drew; simpa using h9
          have bz : Below w6.heap.size w6 wz := by rw [hwz]; exact (((Below.refl _ _).alloc (Nat.le_refl _) _).alloc (by simp) _).trans ((Qt.one _ 1).below _)
          have hzz : w6.heap.size + 2 ≤ wz.heap.size := by rw [hwz]; simp
          rw [← hwz]
          clear hwz
          have gz := grown_below bz (some G)
          replace c00 := keepW gz (by first | (simp; done) | (simp; omega)) c00; replace c01 := keepW gz (by first | (simp; done) | (simp; omega)) c01; replace c02 := keepW gz (by first | (simp; done) | (simp; omega)) c02; replace x0 := keepW gz (by first | (simp; done) | (simp; omega)) x0; replace x1 := keepW gz (by first | (simp; done) | (simp; omega)) x1; replace x2 := keepW gz (by first | (simp; done) | (simp; omega)) x2
          replace f00 := keepWF gz (by first | (simp; done) | (simp; omega)) f00; replace f01 := keepWF gz (by first | (simp; done) | (simp; omega)) f01; replace f02 := keepWF gz (by first | (simp; done) | (simp; omega)) f02
          refine (one_any G (k3 + 1) G _ _ rv _ [0, 1, 2, -1, 9] wz (hrT.below bz) oa.ints (.inr (by omega)) hkT (by simp) (by simp)).mono ?_
          rintro e wc ⟨y, rfl, hy, hrc, bo1⟩
          have hy1 : -1 ≤ y ∧ y ≤ 9 := by simp only [List.mem_cons, List.not_mem_nil, or_false] at hy; omega
          have gb1 := grown_only bo1
          have bg2 := grown_trans gz gb1
          have hzc := bg2.size
          have o3 := ob.kept (bo1.kept (.inr (by omega)))
          replace c00 := keepW gb1 (by first | (simp; done) | (simp; omega)) c00; replace c01 := keepW gb1 (by first | (simp; done) | (simp; omega)) c01; replace c02 := keepW gb1 (by first | (simp; done) | (simp; omega)) c02; replace x0 := keepW gb1 (by first | (simp; done) | (simp; omega)) x0; replace x1 := keepW gb1 (by first | (simp; done) | (simp; omega)) x1; replace x2 := keepW gb1 (by first | (simp; done) | (simp; omega)) x2
          replace f00 := keepWF gb1 (by first | (simp; done) | (simp; omega)) f00; replace f01 := keepWF gb1 (by first | (simp; done) | (simp; omega)) f01; replace f02 := keepWF gb1 (by first | (simp; done) | (simp; omega)) f02
          go_wp2_with fail
          refine hK.out _ _ ?_ (fun hHeld2 => ?_)
          · (first | (try dsimp only); go_keep | (go_split_ands; refine ⟨?_, ?_, ?_⟩ <;> first | exact keepB bx5 (by assumption) | exact keepB bx4 (by assumption) | exact keepB bx3 (by assumption) | exact keepB bx2 (by assumption) | exact keepB bx1 (by assumption) | exact keepO bo5 (by first | (simp; done) | (simp; omega)) (by assumption) | exact keepO bo4 (by first | (simp; done) | (simp; omega)) (by assumption) | exact keepO bo3 (by first | (simp; done) | (simp; omega)) (by assumption) | exact keepO bo2 (by first | (simp; done) | (simp; omega)) (by assumption) | exact keepO bo1 (by first | (simp; done) | (simp; omega)) (by assumption) | exact keepW bg2 (by first | (simp; done) | (simp; omega)) (by assumption) | exact keepW bg1 (by first | (simp; done) | (simp; omega)) (by assumption) | assumption))
          clear hK K hHeld
          have hHeld := hHeld2
          clear hHeld2
          try simp only [Act.put, List.setIfInBounds_toArray, List.set_cons_zero, List.set_cons_succ]
          refine wpAnyH_ready (rs := [7]) (by kernel_rfl) (by simp) ?_
          refine AllReadyH.cons (o := ⟨some 44, _, _, _, _, _⟩) rfl (fun K hK => ?_) AllReadyH.nil
          go_simp
          go_at_call 92
          refine (one_any G ((k3 + 1) + 1) G _ _ rv _ [0, 3, 5, -1, 9] wc hrc o3.ints (.inr (by omega)) (by omega) (by simp) (by simp)).mono ?_
          rintro e wd ⟨z, rfl, hz, hrd, bo2⟩
          have hz1 : -1 ≤ z ∧ z ≤ 9 := by simp only [List.mem_cons, List.not_mem_nil, or_false] at hz; omega
          have gb2 := grown_only bo2
          have bgd := grown_trans bg2 gb2
          replace c00 := keepW gb2 (by first | (simp; done) | (simp; omega)) c00; replace c01 := keepW gb2 (by first | (simp; done) | (simp; omega)) c01; replace c02 := keepW gb2 (by first | (simp; done) | (simp; omega)) c02; replace x0 := keepW gb2 (by first | (simp; done) | (simp; omega)) x0; replace x1 := keepW gb2 (by first | (simp; done) | (simp; omega)) x1; replace x2 := keepW gb2 (by first | (simp; done) | (simp; omega)) x2
          replace f00 := keepWF gb2 (by first | (simp; done) | (simp; omega)) f00; replace f01 := keepWF gb2 (by first | (simp; done) | (simp; omega)) f01; replace f02 := keepWF gb2 (by first | (simp; done) | (simp; omega)) f02
          go_wp2_with fail
          refine hK.out _ _ ?_ (fun hHeld2 => ?_)
          · (first | (try dsimp only); go_keep | (go_split_ands; refine ⟨?_, ?_, ?_⟩ <;> first | exact keepB bx5 (by assumption) | exact keepB bx4 (by assumption) | exact keepB bx3 (by assumption) | exact keepB bx2 (by assumption) | exact keepB bx1 (by assumption) | exact keepO bo5 (by first | (simp; done) | (simp; omega)) (by assumption) | exact keepO bo4 (by first | (simp; done) | (simp; omega)) (by assumption) | exact keepO bo3 (by first | (simp; done) | (simp; omega)) (by assumption) | exact keepO bo2 (by first | (simp; done) | (simp; omega)) (by assumption) | exact keepO bo1 (by first | (simp; done) | (simp; omega)) (by assumption) | exact keepW bg2 (by first | (simp; done) | (simp; omega)) (by assumption) | exact keepW bg1 (by first | (simp; done) | (simp; omega)) (by assumption) | assumption))
          clear hK K hHeld
          have hHeld := hHeld2
          clear hHeld2
          try simp only [Act.put, List.setIfInBounds_toArray, List.set_cons_zero, List.set_cons_succ]
          refine wpAnyH_ready (rs := [8]) (by kernel_rfl) (by simp) ?_
          refine AllReadyH.cons (o := ⟨none, _, _, _, _, _⟩) rfl (fun K hK => ?_) AllReadyH.nil
          go_simp
          refine hK.out _ _ ?_ (fun hHeld2 => ?_)
          · (first | (try dsimp only); go_keep | (go_split_ands; refine ⟨?_, ?_, ?_⟩ <;> first | exact keepB bx5 (by assumption) | exact keepB bx4 (by assumption) | exact keepB bx3 (by assumption) | exact keepB bx2 (by assumption) | exact keepB bx1 (by assumption) | exact keepO bo5 (by first | (simp; done) | (simp; omega)) (by assumption) | exact keepO bo4 (by first | (simp; done) | (simp; omega)) (by assumption) | exact keepO bo3 (by first | (simp; done) | (simp; omega)) (by assumption) | exact keepO bo2 (by first | (simp; done) | (simp; omega)) (by assumption) | exact keepO bo1 (by first | (simp; done) | (simp; omega)) (by assumption) | exact keepW bg2 (by first | (simp; done) | (simp; omega)) (by assumption) | exact keepW bg1 (by first | (simp; done) | (simp; omega)) (by assumption) | assumption))
          clear hK K hHeld
          have hHeld := hHeld2
          clear hHeld2
          try simp only [Act.put, List.setIfInBounds_toArray, List.set_cons_zero, List.set_cons_succ]
          refine wpAnyH_take (i := 9) (oi := ⟨some 3, _, _, _, _, _⟩) (v := _) rfl (by kernel_rfl) (by kernel_rfl) (by kernel_rfl) (fun _ _ _ h => h) (Or.inl ⟨by kernel_rfl, by intro w hSw; (try dsimp only at hSw); go_simp; try with_reducible rfl⟩) (by assumption) ?_
          simp only [Act.put, List.setIfInBounds_toArray, List.set_cons_zero, List.set_cons_succ]
          refine wpAnyH_take (i := 10) (oi := ⟨some 4, _, _, _, _, _⟩) (v := _) rfl (by kernel_rfl) (by kernel_rfl) (by kernel_rfl) (fun _ _ _ h => h) (Or.inl ⟨by kernel_rfl, by intro w hSw; (try dsimp only at hSw); go_simp; try with_reducible rfl⟩) (by assumption) ?_
          simp only [Act.put, List.setIfInBounds_toArray, List.set_cons_zero, List.set_cons_succ]
          refine wpAnyH_take (i := 11) (oi := ⟨some 5, _, _, _, _, _⟩) (v := _) rfl (by kernel_rfl) (by kernel_rfl) (by kernel_rfl) (fun _ _ _ h => h) (Or.inl ⟨by kernel_rfl, by intro w hSw; (try dsimp only at hSw); go_simp; try with_reducible rfl⟩) (by assumption) ?_
          simp only [Act.put, List.setIfInBounds_toArray, List.set_cons_zero, List.set_cons_succ]
          refine wpAnyH_done (by kernel_rfl) ?_ _
        rotate_left 1
      rotate_left 2
      focus
        go_simp
        refine hK.out _ _ ?_ (fun hHeld2 => ?_)
        · (first | (try dsimp only); go_keep | (go_split_ands; refine ⟨?_, ?_, ?_⟩ <;> first | exact keepB bx5 (by assumption) | exact keepB bx4 (by assumption) | exact keepB bx3 (by assumption) | exact keepB bx2 (by assumption) | exact keepB bx1 (by assumption) | exact keepO bo5 (by first | (simp; done) | (simp; omega)) (by assumption) | exact keepO bo4 (by first | (simp; done) | (simp; omega)) (by assumption) | exact keepO bo3 (by first | (simp; done) | (simp; omega)) (by assumption) | exact keepO bo2 (by first | (simp; done) | (simp; omega)) (by assumption) | exact keepO bo1 (by first | (simp; done) | (simp; omega)) (by assumption) | exact keepW bg2 (by first | (simp; done) | (simp; omega)) (by assumption) | exact keepW bg1 (by first | (simp; done) | (simp; omega)) (by assumption) | assumption))
        clear hK K hHeld
        have hHeld := hHeld2
        clear hHeld2
        try simp only [Act.put, List.setIfInBounds_toArray, List.set_cons_zero, List.set_cons_succ]
        refine wpAnyH_ready (rs := [3]) (by kernel_rfl) (by simp) ?_
        refine AllReadyH.cons (o := ⟨some 40, _, _, _, _, _⟩) rfl (fun K hK => ?_) AllReadyH.nil
        go_simp
        refine hK.out _ _ ?_ (fun hHeld2 => ?_)
        · (first | (try dsimp only); go_keep | (go_split_ands; refine ⟨?_, ?_, ?_⟩ <;> first | exact keepB bx5 (by assumption) | exact keepB bx4 (by assumption) | exact keepB bx3 (by assumption) | exact keepB bx2 (by assumption) | exact keepB bx1 (by assumption) | exact keepO bo5 (by first | (simp; done) | (simp; omega)) (by assumption) | exact keepO bo4 (by first | (simp; done) | (simp; omega)) (by assumption) | exact keepO bo3 (by first | (simp; done) | (simp; omega)) (by assumption) | exact keepO bo2 (by first | (simp; done) | (simp; omega)) (by assumption) | exact keepO bo1 (by first | (simp; done) | (simp; omega)) (by assumption) | exact keepW bg2 (by first | (simp; done) | (simp; omega)) (by assumption) | exact keepW bg1 (by first | (simp; done) | (simp; omega)) (by assumption) | assumption))
        clear hK K hHeld
        have hHeld := hHeld2
        clear hHeld2
        try simp only [Act.put, List.setIfInBounds_toArray, List.set_cons_zero, List.set_cons_succ]
        refine wpAnyH_ready (rs := [4]) (by kernel_rfl) (by simp) ?_
        refine AllReadyH.cons (o := ⟨some 41, _, _, _, _, _⟩) rfl (fun K hK => ?_) AllReadyH.nil
        go_simp
        go_at_call 92
        obtain ⟨wz, hwz⟩ : ∃ wz, wz = ((w6.alloc (.cells #[.int .i64 0, .int .i64 3, .int .i64 5, .int .i64 (-1), .int .i64 9] 3)).alloc (.cells #[.int .i64 0, .int .i64 1, .int .i64 2, .int .i64 (-1), .int .i64 9] 3)).drew := ⟨_, rfl⟩
        have oa : OwnI wz w6.heap.size 3 (.slice (some ⟨w6.heap.size, 0, none⟩) 5 5) [0, 3, 5, -1, 9] := by rw [hwz]; exact ((lit_own w6 3 [0, 3, 5, -1, 9] (by simp) (by unfold I64; simp)).alloc _).drew
        have ob : OwnI wz (w6.heap.size + 1) 3 (.slice (some ⟨w6.heap.size + 1, 0, none⟩) 5 5) [0, 1, 2, -1, 9] := by rw [hwz]; have h9 := (lit_own (w6.alloc (.cells #[.int .i64 0, .int .i64 3, .int .i64 5, .int .i64 (-1), .int .i64 9] 3)) 3 [0, 1, 2, -1, 9] (by simp) (by unfold I64; simp)).drew; simpa using h9
        have bz : Below w6.heap.size w6 wz := by rw [hwz]; exact (((Below.refl _ _).alloc (Nat.le_refl _) _).alloc (by simp) _).trans ((Qt.one _ 1).below _)
        have hzz : w6.heap.size + 2 ≤ wz.heap.size := by rw [hwz]; simp
        rw [← hwz]
        clear hwz
        have gz := grown_below bz (some G)
        replace c00 := keepW gz (by first | (simp; done) | (simp; omega)) c00; replace c01 := keepW gz (by first | (simp; done) | (simp; omega)) c01; replace c02 := keepW gz (by first | (simp; done) | (simp; omega)) c02; replace x0 := keepW gz (by first | (simp; done) | (simp; omega)) x0; replace x1 := keepW gz (by first | (simp; done) | (simp; omega)) x1; replace x2 := keepW gz (by first | (simp; done) | (simp; omega)) x2
        replace f00 := keepWF gz (by first | (simp; done) | (simp; omega)) f00; replace f01 := keepWF gz (by first | (simp; done) | (simp; omega)) f01; replace f02 := keepWF gz (by first | (simp; done) | (simp; omega)) f02
        refine (one_any G (k3 + 1) G _ _ rv _ [0, 1, 2, -1, 9] wz (hrT.below bz) ob.ints (.inr (by omega)) hkT (by simp) (by simp)).mono ?_
        rintro e wc ⟨y, rfl, hy, hrc, bo1⟩
        have hy1 : -1 ≤ y ∧ y ≤ 9 := by simp only [List.mem_cons, List.not_mem_nil, or_false] at hy; omega
        have gb1 := grown_only bo1
        have bg2 := grown_trans gz gb1
        have hzc := bg2.size
        have o3 := oa.kept (bo1.kept (.inr (by omega)))
        replace c00 := keepW gb1 (by first | (simp; done) | (simp; omega)) c00; replace c01 := keepW gb1 (by first | (simp; done) | (simp; omega)) c01; replace c02 := keepW gb1 (by first | (simp; done) | (simp; omega)) c02; replace x0 := keepW gb1 (by first | (simp; done) | (simp; omega)) x0; replace x1 := keepW gb1 (by first | (simp; done) | (simp; omega)) x1; replace x2 := keepW gb1 (by first | (simp; done) | (simp; omega)) x2
        replace f00 := keepWF gb1 (by first | (simp; done) | (simp; omega)) f00; replace f01 := keepWF gb1 (by first | (simp; done) | (simp; omega)) f01; replace f02 := keepWF gb1 (by first | (simp; done) | (simp; omega)) f02
        go_wp2_with fail
        refine hK.out _ _ ?_ (fun hHeld2 => ?_)
        · (first | (try dsimp only); go_keep | (go_split_ands; refine ⟨?_, ?_, ?_⟩ <;> first | exact keepB bx5 (by assumption) | exact keepB bx4 (by assumption) | exact keepB bx3 (by assumption) | exact keepB bx2 (by assumption) | exact keepB bx1 (by assumption) | exact keepO bo5 (by first | (simp; done) | (simp; omega)) (by assumption) | exact keepO bo4 (by first | (simp; done) | (simp; omega)) (by assumption) | exact keepO bo3 (by first | (simp; done) | (simp; omega)) (by assumption) | exact keepO bo2 (by first | (simp; done) | (simp; omega)) (by assumption) | exact keepO bo1 (by first | (simp; done) | (simp; omega)) (by assumption) | exact keepW bg2 (by first | (simp; done) | (simp; omega)) (by assumption) | exact keepW bg1 (by first | (simp; done) | (simp; omega)) (by assumption) | assumption))
        clear hK K hHeld
        have hHeld := hHeld2
        clear hHeld2
        try simp only [Act.put, List.setIfInBounds_toArray, List.set_cons_zero, List.set_cons_succ]
        refine wpAnyH_ready (rs := [7]) (by kernel_rfl) (by simp) ?_
        refine AllReadyH.cons (o := ⟨some 44, _, _, _, _, _⟩) rfl (fun K hK => ?_) AllReadyH.nil
        go_simp
        go_at_call 92
        refine (one_any G ((k3 + 1) + 1) G _ _ rv _ [0, 3, 5, -1, 9] wc hrc o3.ints (.inr (by omega)) (by omega) (by simp) (by simp)).mono ?_
        rintro e wd ⟨z, rfl, hz, hrd, bo2⟩
        have hz1 : -1 ≤ z ∧ z ≤ 9 := by simp only [List.mem_cons, List.not_mem_nil, or_false] at hz; omega
        have gb2 := grown_only bo2
        have bgd := grown_trans bg2 gb2
        replace c00 := keepW gb2 (by first | (simp; done) | (simp; omega)) c00; replace c01 := keepW gb2 (by first | (simp; done) | (simp; omega)) c01; replace c02 := keepW gb2 (by first | (simp; done) | (simp; omega)) c02; replace x0 := keepW gb2 (by first | (simp; done) | (simp; omega)) x0; replace x1 := keepW gb2 (by first | (simp; done) | (simp; omega)) x1; replace x2 := keepW gb2 (by first | (simp; done) | (simp; omega)) x2
        replace f00 := keepWF gb2 (by first | (simp; done) | (simp; omega)) f00; replace f01 := keepWF gb2 (by first | (simp; done) | (simp; omega)) f01; replace f02 := keepWF gb2 (by first | (simp; done) | (simp; omega)) f02
        go_wp2_with fail
        refine hK.out _ _ ?_ (fun hHeld2 => ?_)
        · (first | (try dsimp only); go_keep | (go_split_ands; refine ⟨?_, ?_, ?_⟩ <;> first | exact keepB bx5 (by assumption) | exact keepB bx4 (by assumption) | exact keepB bx3 (by assumption) | exact keepB bx2 (by assumption) | exact keepB bx1 (by assumption) | exact keepO bo5 (by first | (simp; done) | (simp; omega)) (by assumption) | exact keepO bo4 (by first | (simp; done) | (simp; omega)) (by assumption) | exact keepO bo3 (by first | (simp; done) | (simp; omega)) (by assumption) | exact keepO bo2 (by first | (simp; done) | (simp; omega)) (by assumption) | exact keepO bo1 (by first | (simp; done) | (simp; omega)) (by assumption) | exact keepW bg2 (by first | (simp; done) | (simp; omega)) (by assumption) | exact keepW bg1 (by first | (simp; done) | (simp; omega)) (by assumption) | assumption))
        clear hK K hHeld
        have hHeld := hHeld2
        clear hHeld2
        try simp only [Act.put, List.setIfInBounds_toArray, List.set_cons_zero, List.set_cons_succ]
        refine wpAnyH_ready (rs := [8]) (by kernel_rfl) (by simp) ?_
        refine AllReadyH.cons (o := ⟨none, _, _, _, _, _⟩) rfl (fun K hK => ?_) AllReadyH.nil
        go_simp
        refine hK.out _ _ ?_ (fun hHeld2 => ?_)
        · (first | (try dsimp only); go_keep | (go_split_ands; refine ⟨?_, ?_, ?_⟩ <;> first | exact keepB bx5 (by assumption) | exact keepB bx4 (by assumption) | exact keepB bx3 (by assumption) | exact keepB bx2 (by assumption) | exact keepB bx1 (by assumption) | exact keepO bo5 (by first | (simp; done) | (simp; omega)) (by assumption) | exact keepO bo4 (by first | (simp; done) | (simp; omega)) (by assumption) | exact keepO bo3 (by first | (simp; done) | (simp; omega)) (by assumption) | exact keepO bo2 (by first | (simp; done) | (simp; omega)) (by assumption) | exact keepO bo1 (by first | (simp; done) | (simp; omega)) (by assumption) | exact keepW bg2 (by first | (simp; done) | (simp; omega)) (by assumption) | exact keepW bg1 (by first | (simp; done) | (simp; omega)) (by assumption) | assumption))
        clear hK K hHeld
        have hHeld := hHeld2
        clear hHeld2
        try simp only [Act.put, List.setIfInBounds_toArray, List.set_cons_zero, List.set_cons_succ]
        refine wpAnyH_take (i := 9) (oi := ⟨some 3, _, _, _, _, _⟩) (v := _) rfl (by kernel_rfl) (by kernel_rfl) (by kernel_rfl) (fun _ _ _ h => h) (Or.inl ⟨by kernel_rfl, by intro w hSw; (try dsimp only at hSw); go_simp; try with_reducible rfl⟩) (by assumption) ?_
        simp only [Act.put, List.setIfInBounds_toArray, List.set_cons_zero, List.set_cons_succ]
        refine wpAnyH_take (i := 10) (oi := ⟨some 4, _, _, _, _, _⟩) (v := _) rfl (by kernel_rfl) (by kernel_rfl) (by kernel_rfl) (fun _ _ _ h => h) (Or.inl ⟨by kernel_rfl, by intro w hSw; (try dsimp only at hSw); go_simp; try with_reducible rfl⟩) (by assumption) ?_
        simp only [Act.put, List.setIfInBounds_toArray, List.set_cons_zero, List.set_cons_succ]
        refine wpAnyH_take (i := 11) (oi := ⟨some 5, _, _, _, _, _⟩) (v := _) rfl (by kernel_rfl) (by kernel_rfl) (by kernel_rfl) (fun _ _ _ h => h) (Or.inl ⟨by kernel_rfl, by intro w hSw; (try dsimp only at hSw); go_simp; try with_reducible rfl⟩) (by assumption) ?_
        simp only [Act.put, List.setIfInBounds_toArray, List.set_cons_zero, List.set_cons_succ]
        refine wpAnyH_done (by kernel_rfl) ?_ _
      rotate_left 1
      all_goals
        have hbc := hbT.trans (below_of_grown bgd (B := w.heap.size) (by omega) (by omega))
        go_wp2
        refine bodyPost_ret (v := .tuple #[.agg #[.int .i64 W, .int .i64 L, .slice A ds.length c], .slice A2 ps.length c2, .int .i64 y, .int .i64 z]) (by simp [results, Try.results54, go_sem, *]) rfl ⟨W, L, _, _, ds, ps, y, z, rfl, ?_, ?_, hy1, hz1, ((hbc.setCell (Nat.le_refl _) _).setCell (Nat.le_refl _) _).setCell (Nat.le_refl _) _⟩
        · exact ((((HoT.out.kept (Kept.of_grown bgd (Nat.le_refl _) (.inl (by omega)))).setBelow (by show w.heap.size < _; omega) _).setBelow (by show w.heap.size < _; omega) _).setBelow (by show w.heap.size < _; omega) _).base (by omega)
        · exact ((((HpT.out.kept (Kept.of_grown bgd (Nat.le_refl _) (.inl (by omega)))).setBelow (by show w.heap.size < _; omega) _).setBelow (by show w.heap.size < _; omega) _).setBelow (by show w.heap.size < _; omega) _).base (by omega)
    · by_cases hw3 : 3 < W
      · obtain ⟨T, hT⟩ : ∃ T, T = W - 2 := ⟨_, rfl⟩
        have g1 : wrap64 (W - 2) = T := by rw [hT]; exact w64 (by omega)
        have g2 : IntKind.i64.wrap (W - 2) = T := by rw [hT]; exact IntWalk.i64_in _ (by omega)
        have hTr : 0 ≤ T ∧ T ≤ 100 := by omega
        clear hT
        have p1 : Below w6.heap.size w6 (w6.alloc (.cells #[.int .i64 2, .int .i64 1] 3)) := (Below.refl _ _).alloc (Nat.le_refl _) _
        have p2 : Below w6.heap.size w6 ((w6.alloc (.cells #[.int .i64 2, .int .i64 1] 3)).alloc (.cells #[.int .i64 1, .int .i64 T] 3)) := p1.alloc (by simp) _
        have y0 := keepB p1 x0
        have y1 := keepB p1 x1
        have z1 := keepB p2 x1
        go_wp2_with fail
        clear y0 y1 z1 p1 p2
        obtain ⟨wz, hwz⟩ : ∃ wz, wz = (w6.alloc (.cells #[.int .i64 2, .int .i64 1] 3)).alloc (.cells #[.int .i64 1, .int .i64 T] 3) := ⟨_, rfl⟩
        have oa : OwnI wz w6.heap.size 3 (.slice (some ⟨w6.heap.size, 0, none⟩) 2 2) [2, 1] := by rw [hwz]; exact (lit_own w6 3 [2, 1] (by simp) (by unfold I64; simp)).alloc _
        have ob : OwnI wz (w6.heap.size + 1) 3 (.slice (some ⟨w6.heap.size + 1, 0, none⟩) 2 2) [1, T] := by rw [hwz]; have h9 := lit_own (w6.alloc (.cells #[.int .i64 2, .int .i64 1] 3)) 3 [1, T] (by simp) (i64_2 ⟨by omega, by omega⟩ ⟨by omega, by omega⟩); simpa using h9
        have bz : Below w6.heap.size w6 wz := by rw [hwz]; exact ((Below.refl _ _).alloc (Nat.le_refl _) _).alloc (by simp) _
        rw [← hwz]
        clear hwz g1 g2
        replace c00 := keepB bz c00; replace c01 := keepB bz c01; replace c02 := keepB bz c02; replace x0 := keepB bz x0; replace x1 := keepB bz x1; replace x2 := keepB bz x2
        replace f00 := keepF bz (by first | (simp; done) | (simp; omega)) f00; replace f01 := keepF bz (by first | (simp; done) | (simp; omega)) f01; replace f02 := keepF bz (by first | (simp; done) | (simp; omega)) f02
        have Hoz := Lib.hid (Ho6.out.kept (.of_below bz (Nat.le_refl _)))
        have hzz := bz.size
        refine (sSlitReel_any _ _ _ _ _ _ W L _ _ _ ds [2, 1] [1, T] 0 L wz Hoz.out.ts (Nat.le_refl _) oa.ints (Nat.le_refl _) ob.ints (Nat.le_refl _) ⟨by omega, by omega⟩ ⟨by omega, by omega⟩).mono ?_
        obtain ⟨PS, hPS⟩ : ∃ PS, PS = slL W L ds [2, 1] [1, T] 0 L := ⟨_, rfl⟩
        rw [← hPS]
        rintro e w8 ⟨vp, rfl, op8, b8⟩
        clear hPS
        obtain ⟨A8, c8, rfl, hc8, hm8⟩ := op8.form
        have hz8 := b8.size
        replace c00 := keepB b8 c00; replace c01 := keepB b8 c01; replace c02 := keepB b8 c02; replace x0 := keepB b8 x0; replace x1 := keepB b8 x1; replace x2 := keepB b8 x2
        replace f00 := keepF b8 (by first | (simp; done) | (simp; omega)) f00; replace f01 := keepF b8 (by first | (simp; done) | (simp; omega)) f01; replace f02 := keepF b8 (by first | (simp; done) | (simp; omega)) f02
        have hrT := (hr6.below bz).below b8
        have hkT : _ ≤ 1000000 := hk6
        have HoT := Lib.hid ((Hoz.out.kept (.of_below b8 (Nat.le_refl _))))
        have HpT := Lib.hid (op8.base (base' := w3.heap.size) (by omega))
        have hbT := (hb6.trans (bz.mono (by omega))).trans (b8.mono (by omega))
        have hzT : w3.heap.size + 1 ≤ w8.heap.size := by omega
        clear hr6 hk6 Ho6 Hp6 hb6 hz6 oa ob bz Hoz op8 b8
        have hne1 : ¬ w3.heap.size = w.heap.size := by omega
        have hne2 : ¬ w.heap.size = w3.heap.size := by omega
        go_wp2
        refine wp_region_held_drew (S := fun w' => w'.cell? ⟨w3.heap.size, 0, none⟩ = some (.int .i64 W) ∧ w'.cell? ⟨w3.heap.size, 1, none⟩ = some (.int .i64 L) ∧ w'.cell? ⟨w3.heap.size, 2, none⟩ = some (.slice A ds.length c)) (by kernel_rfl) ?_ (fun hHeld => ?_)
        · (first | (try dsimp only); go_keep | (go_split_ands; refine ⟨?_, ?_, ?_⟩ <;> first | exact keepB bx5 (by assumption) | exact keepB bx4 (by assumption) | exact keepB bx3 (by assumption) | exact keepB bx2 (by assumption) | exact keepB bx1 (by assumption) | exact keepO bo5 (by first | (simp; done) | (simp; omega)) (by assumption) | exact keepO bo4 (by first | (simp; done) | (simp; omega)) (by assumption) | exact keepO bo3 (by first | (simp; done) | (simp; omega)) (by assumption) | exact keepO bo2 (by first | (simp; done) | (simp; omega)) (by assumption) | exact keepO bo1 (by first | (simp; done) | (simp; omega)) (by assumption) | exact keepW bg2 (by first | (simp; done) | (simp; omega)) (by assumption) | exact keepW bg1 (by first | (simp; done) | (simp; omega)) (by assumption) | assumption))
        refine wpAnyH_take (i := 0) (oi := ⟨some 37, _, _, _, _, _⟩) (v := _) rfl (by kernel_rfl) (by kernel_rfl) (by kernel_rfl) (fun _ _ _ h => h) (Or.inl ⟨by kernel_rfl, by intro w hSw; (try dsimp only at hSw); go_simp; try with_reducible rfl⟩) (by assumption) ?_
        simp only [Act.put, List.setIfInBounds_toArray, List.set_cons_zero, List.set_cons_succ]
        refine wpAnyH_take (i := 1) (oi := ⟨some 38, _, _, _, _, _⟩) (v := _) rfl (by kernel_rfl) (by kernel_rfl) (by kernel_rfl) (fun _ _ _ h => h) (Or.inl ⟨by kernel_rfl, by intro w hSw; (try dsimp only at hSw); go_simp; try with_reducible rfl⟩) (by assumption) ?_
        simp only [Act.put, List.setIfInBounds_toArray, List.set_cons_zero, List.set_cons_succ]
        refine wpAnyH_take (i := 2) (oi := ⟨some 39, _, _, _, _, _⟩) (v := _) rfl (by kernel_rfl) (by kernel_rfl) (by kernel_rfl) (fun _ _ _ h => h) (Or.inl ⟨by kernel_rfl, by intro w hSw; (try dsimp only at hSw); go_simp; try with_reducible rfl⟩) (by assumption) ?_
        simp only [Act.put, List.setIfInBounds_toArray, List.set_cons_zero, List.set_cons_succ]
        refine wpAnyH_take (i := 5) (oi := ⟨some 42, _, _, _, _, _⟩) (v := _) rfl (by kernel_rfl) (by kernel_rfl) (by kernel_rfl) (fun _ _ _ h => h) (Or.inl ⟨by kernel_rfl, by intro w hSw; (try dsimp only at hSw); go_simp; try with_reducible rfl⟩) (by assumption) ?_
        simp only [Act.put, List.setIfInBounds_toArray, List.set_cons_zero, List.set_cons_succ]
        refine wpAnyH_ready (rs := [3, 6]) (by kernel_rfl) (by simp) (AllReadyH.cons (o := ⟨some 40, _, _, _, _, _⟩) rfl (fun K hK => ?_) (AllReadyH.cons (o := ⟨some 43, _, _, _, _, _⟩) rfl (fun K hK => ?_) (AllReadyH.nil)))
        focus
          go_simp
          refine hK.out _ _ ?_ (fun hHeld2 => ?_)
          · (first | (try dsimp only); go_keep | (go_split_ands; refine ⟨?_, ?_, ?_⟩ <;> first | exact keepB bx5 (by assumption) | exact keepB bx4 (by assumption) | exact keepB bx3 (by assumption) | exact keepB bx2 (by assumption) | exact keepB bx1 (by assumption) | exact keepO bo5 (by first | (simp; done) | (simp; omega)) (by assumption) | exact keepO bo4 (by first | (simp; done) | (simp; omega)) (by assumption) | exact keepO bo3 (by first | (simp; done) | (simp; omega)) (by assumption) | exact keepO bo2 (by first | (simp; done) | (simp; omega)) (by assumption) | exact keepO bo1 (by first | (simp; done) | (simp; omega)) (by assumption) | exact keepW bg2 (by first | (simp; done) | (simp; omega)) (by assumption) | exact keepW bg1 (by first | (simp; done) | (simp; omega)) (by assumption) | assumption))
          clear hK K hHeld
          have hHeld := hHeld2
          clear hHeld2
          try simp only [Act.put, List.setIfInBounds_toArray, List.set_cons_zero, List.set_cons_succ]
          refine wpAnyH_ready (rs := [4, 6]) (by kernel_rfl) (by simp) (AllReadyH.cons (o := ⟨some 41, _, _, _, _, _⟩) rfl (fun K hK => ?_) (AllReadyH.cons (o := ⟨some 43, _, _, _, _, _⟩) rfl (fun K hK => ?_) (AllReadyH.nil)))
          focus
            go_simp
            go_at_call 92
            rw [show (w8.alloc (.cells #[.int .i64 0, .int .i64 1, .int .i64 2, .int .i64 (-1), .int .i64 9] 3)).drew = w8.drew.alloc (.cells #[.int .i64 0, .int .i64 1, .int .i64 2, .int .i64 (-1), .int .i64 9] 3) from rfl]
            refine (one_lit G (k3 + 1) G rv [0, 1, 2, -1, 9] w8.drew _ 5 w8.heap.size hrT.drew hkT rfl rfl rfl (by simp) (by simp) (by unfold I64; simp)).mono ?_
            rintro e wc ⟨y, rfl, hy, hrc, bg3⟩
            have hy1 : -1 ≤ y ∧ y ≤ 9 := by simp only [List.mem_cons, List.not_mem_nil, or_false] at hy; omega
            have bg2 := grown_drew bg3
            have hzc := bg2.size
            replace c00 := keepW bg2 (by first | (simp; done) | (simp; omega)) c00; replace c01 := keepW bg2 (by first | (simp; done) | (simp; omega)) c01; replace c02 := keepW bg2 (by first | (simp; done) | (simp; omega)) c02; replace x0 := keepW bg2 (by first | (simp; done) | (simp; omega)) x0; replace x1 := keepW bg2 (by first | (simp; done) | (simp; omega)) x1; replace x2 := keepW bg2 (by first | (simp; done) | (simp; omega)) x2
            replace f00 := keepWF bg2 (by first | (simp; done) | (simp; omega)) f00; replace f01 := keepWF bg2 (by first | (simp; done) | (simp; omega)) f01; replace f02 := keepWF bg2 (by first | (simp; done) | (simp; omega)) f02
            go_wp2_with fail
            refine hK.out _ _ ?_ (fun hHeld2 => ?_)
            · (first | (try dsimp only); go_keep | (go_split_ands; refine ⟨?_, ?_, ?_⟩ <;> first | exact keepB bx5 (by assumption) | exact keepB bx4 (by assumption) | exact keepB bx3 (by assumption) | exact keepB bx2 (by assumption) | exact keepB bx1 (by assumption) | exact keepO bo5 (by first | (simp; done) | (simp; omega)) (by assumption) | exact keepO bo4 (by first | (simp; done) | (simp; omega)) (by assumption) | exact keepO bo3 (by first | (simp; done) | (simp; omega)) (by assumption) | exact keepO bo2 (by first | (simp; done) | (simp; omega)) (by assumption) | exact keepO bo1 (by first | (simp; done) | (simp; omega)) (by assumption) | exact keepW bg2 (by first | (simp; done) | (simp; omega)) (by assumption) | exact keepW bg1 (by first | (simp; done) | (simp; omega)) (by assumption) | assumption))
            clear hK K hHeld
            have hHeld := hHeld2
            clear hHeld2
            try simp only [Act.put, List.setIfInBounds_toArray, List.set_cons_zero, List.set_cons_succ]
            refine wpAnyH_ready (rs := [6]) (by kernel_rfl) (by simp) ?_
            refine AllReadyH.cons (o := ⟨some 43, _, _, _, _, _⟩) rfl (fun K hK => ?_) AllReadyH.nil
            go_simp
            refine hK.out _ _ ?_ (fun hHeld2 => ?_)
            · (first | (try dsimp only); go_keep | (go_split_ands; refine ⟨?_, ?_, ?_⟩ <;> first | exact keepB bx5 (by assumption) | exact keepB bx4 (by assumption) | exact keepB bx3 (by assumption) | exact keepB bx2 (by assumption) | exact keepB bx1 (by assumption) | exact keepO bo5 (by first | (simp; done) | (simp; omega)) (by assumption) | exact keepO bo4 (by first | (simp; done) | (simp; omega)) (by assumption) | exact keepO bo3 (by first | (simp; done) | (simp; omega)) (by assumption) | exact keepO bo2 (by first | (simp; done) | (simp; omega)) (by assumption) | exact keepO bo1 (by first | (simp; done) | (simp; omega)) (by assumption) | exact keepW bg2 (by first | (simp; done) | (simp; omega)) (by assumption) | exact keepW bg1 (by first | (simp; done) | (simp; omega)) (by assumption) | assumption))
            clear hK K hHeld
            have hHeld := hHeld2
            clear hHeld2
            try simp only [Act.put, List.setIfInBounds_toArray, List.set_cons_zero, List.set_cons_succ]
            refine wpAnyH_ready (rs := [7]) (by kernel_rfl) (by simp) ?_
            refine AllReadyH.cons (o := ⟨some 44, _, _, _, _, _⟩) rfl (fun K hK => ?_) AllReadyH.nil
            go_simp
            go_at_call 92
            refine (one_lit G ((k3 + 1) + 1) G rv [0, 3, 5, -1, 9] wc _ 5 wc.heap.size hrc (by omega) rfl rfl rfl (by simp) (by simp) (by unfold I64; simp)).mono ?_
            rintro e wd ⟨z, rfl, hz, hrd, bg4⟩
            have hz1 : -1 ≤ z ∧ z ≤ 9 := by simp only [List.mem_cons, List.not_mem_nil, or_false] at hz; omega
            have bgd := grown_trans bg2 bg4
            replace c00 := keepW bg4 (by first | (simp; done) | (simp; omega)) c00; replace c01 := keepW bg4 (by first | (simp; done) | (simp; omega)) c01; replace c02 := keepW bg4 (by first | (simp; done) | (simp; omega)) c02; replace x0 := keepW bg4 (by first | (simp; done) | (simp; omega)) x0; replace x1 := keepW bg4 (by first | (simp; done) | (simp; omega)) x1; replace x2 := keepW bg4 (by first | (simp; done) | (simp; omega)) x2
            replace f00 := keepWF bg4 (by first | (simp; done) | (simp; omega)) f00; replace f01 := keepWF bg4 (by first | (simp; done) | (simp; omega)) f01; replace f02 := keepWF bg4 (by first | (simp; done) | (simp; omega)) f02
            go_wp2_with fail
            refine hK.out _ _ ?_ (fun hHeld2 => ?_)
            · (first | (try dsimp only); go_keep | (go_split_ands; refine ⟨?_, ?_, ?_⟩ <;> first | exact keepB bx5 (by assumption) | exact keepB bx4 (by assumption) | exact keepB bx3 (by assumption) | exact keepB bx2 (by assumption) | exact keepB bx1 (by assumption) | exact keepO bo5 (by first | (simp; done) | (simp; omega)) (by assumption) | exact keepO bo4 (by first | (simp; done) | (simp; omega)) (by assumption) | exact keepO bo3 (by first | (simp; done) | (simp; omega)) (by assumption) | exact keepO bo2 (by first | (simp; done) | (simp; omega)) (by assumption) | exact keepO bo1 (by first | (simp; done) | (simp; omega)) (by assumption) | exact keepW bg2 (by first | (simp; done) | (simp; omega)) (by assumption) | exact keepW bg1 (by first | (simp; done) | (simp; omega)) (by assumption) | assumption))
            clear hK K hHeld
            have hHeld := hHeld2
            clear hHeld2
            try simp only [Act.put, List.setIfInBounds_toArray, List.set_cons_zero, List.set_cons_succ]
            refine wpAnyH_ready (rs := [8]) (by kernel_rfl) (by simp) ?_
            refine AllReadyH.cons (o := ⟨none, _, _, _, _, _⟩) rfl (fun K hK => ?_) AllReadyH.nil
            go_simp
            refine hK.out _ _ ?_ (fun hHeld2 => ?_)
            · (first | (try dsimp only); go_keep | (go_split_ands; refine ⟨?_, ?_, ?_⟩ <;> first | exact keepB bx5 (by assumption) | exact keepB bx4 (by assumption) | exact keepB bx3 (by assumption) | exact keepB bx2 (by assumption) | exact keepB bx1 (by assumption) | exact keepO bo5 (by first | (simp; done) | (simp; omega)) (by assumption) | exact keepO bo4 (by first | (simp; done) | (simp; omega)) (by assumption) | exact keepO bo3 (by first | (simp; done) | (simp; omega)) (by assumption) | exact keepO bo2 (by first | (simp; done) | (simp; omega)) (by assumption) | exact keepO bo1 (by first | (simp; done) | (simp; omega)) (by assumption) | exact keepW bg2 (by first | (simp; done) | (simp; omega)) (by assumption) | exact keepW bg1 (by first | (simp; done) | (simp; omega)) (by assumption) | assumption))
            clear hK K hHeld
            have hHeld := hHeld2
            clear hHeld2
            try simp only [Act.put, List.setIfInBounds_toArray, List.set_cons_zero, List.set_cons_succ]
            refine wpAnyH_take (i := 9) (oi := ⟨some 3, _, _, _, _, _⟩) (v := _) rfl (by kernel_rfl) (by kernel_rfl) (by kernel_rfl) (fun _ _ _ h => h) (Or.inl ⟨by kernel_rfl, by intro w hSw; (try dsimp only at hSw); go_simp; try with_reducible rfl⟩) (by assumption) ?_
            simp only [Act.put, List.setIfInBounds_toArray, List.set_cons_zero, List.set_cons_succ]
            refine wpAnyH_take (i := 10) (oi := ⟨some 4, _, _, _, _, _⟩) (v := _) rfl (by kernel_rfl) (by kernel_rfl) (by kernel_rfl) (fun _ _ _ h => h) (Or.inl ⟨by kernel_rfl, by intro w hSw; (try dsimp only at hSw); go_simp; try with_reducible rfl⟩) (by assumption) ?_
            simp only [Act.put, List.setIfInBounds_toArray, List.set_cons_zero, List.set_cons_succ]
            refine wpAnyH_take (i := 11) (oi := ⟨some 5, _, _, _, _, _⟩) (v := _) rfl (by kernel_rfl) (by kernel_rfl) (by kernel_rfl) (fun _ _ _ h => h) (Or.inl ⟨by kernel_rfl, by intro w hSw; (try dsimp only at hSw); go_simp; try with_reducible rfl⟩) (by assumption) ?_
            simp only [Act.put, List.setIfInBounds_toArray, List.set_cons_zero, List.set_cons_succ]
            refine wpAnyH_done (by kernel_rfl) ?_ _
          rotate_left 1
          focus
            go_simp
            refine hK.out _ _ ?_ (fun hHeld2 => ?_)
            · (first | (try dsimp only); go_keep | (go_split_ands; refine ⟨?_, ?_, ?_⟩ <;> first | exact keepB bx5 (by assumption) | exact keepB bx4 (by assumption) | exact keepB bx3 (by assumption) | exact keepB bx2 (by assumption) | exact keepB bx1 (by assumption) | exact keepO bo5 (by first | (simp; done) | (simp; omega)) (by assumption) | exact keepO bo4 (by first | (simp; done) | (simp; omega)) (by assumption) | exact keepO bo3 (by first | (simp; done) | (simp; omega)) (by assumption) | exact keepO bo2 (by first | (simp; done) | (simp; omega)) (by assumption) | exact keepO bo1 (by first | (simp; done) | (simp; omega)) (by assumption) | exact keepW bg2 (by first | (simp; done) | (simp; omega)) (by assumption) | exact keepW bg1 (by first | (simp; done) | (simp; omega)) (by assumption) | assumption))
            clear hK K hHeld
            have hHeld := hHeld2
            clear hHeld2
            try simp only [Act.put, List.setIfInBounds_toArray, List.set_cons_zero, List.set_cons_succ]
            refine wpAnyH_ready (rs := [4]) (by kernel_rfl) (by simp) ?_
            refine AllReadyH.cons (o := ⟨some 41, _, _, _, _, _⟩) rfl (fun K hK => ?_) AllReadyH.nil
            go_simp
            go_at_call 92
            obtain ⟨wz, hwz⟩ : ∃ wz, wz = ((w8.alloc (.cells #[.int .i64 0, .int .i64 1, .int .i64 2, .int .i64 (-1), .int .i64 9] 3)).alloc (.cells #[.int .i64 0, .int .i64 3, .int .i64 5, .int .i64 (-1), .int .i64 9] 3)).drew := ⟨_, rfl⟩
            have oa : OwnI wz w8.heap.size 3 (.slice (some ⟨w8.heap.size, 0, none⟩) 5 5) [0, 1, 2, -1, 9] := by rw [hwz]; exact ((lit_own w8 3 [0, 1, 2, -1, 9] (by simp) (by unfold I64; simp)).alloc _).drew
            have ob : OwnI wz (w8.heap.size + 1) 3 (.slice (some ⟨w8.heap.size + 1, 0, none⟩) 5 5) [0, 3, 5, -1, 9] := by rw [hwz]; have h9 := (lit_own (w8.alloc (.cells #[.int .i64 0, .int .i64 1, .int .i64 2, .int .i64 (-1), .int .i64 9] 3)) 3 [0, 3, 5, -1, 9] (by simp) (by unfold I64; simp)).drew; simpa using h9
            have bz : Below w8.heap.size w8 wz := by rw [hwz]; exact (((Below.refl _ _).alloc (Nat.le_refl _) _).alloc (by simp) _).trans ((Qt.one _ 1).below _)
            have hzz : w8.heap.size + 2 ≤ wz.heap.size := by rw [hwz]; simp
            rw [← hwz]
            clear hwz
            have gz := grown_below bz (some G)
            replace c00 := keepW gz (by first | (simp; done) | (simp; omega)) c00; replace c01 := keepW gz (by first | (simp; done) | (simp; omega)) c01; replace c02 := keepW gz (by first | (simp; done) | (simp; omega)) c02; replace x0 := keepW gz (by first | (simp; done) | (simp; omega)) x0; replace x1 := keepW gz (by first | (simp; done) | (simp; omega)) x1; replace x2 := keepW gz (by first | (simp; done) | (simp; omega)) x2
            replace f00 := keepWF gz (by first | (simp; done) | (simp; omega)) f00; replace f01 := keepWF gz (by first | (simp; done) | (simp; omega)) f01; replace f02 := keepWF gz (by first | (simp; done) | (simp; omega)) f02
            refine (one_any G (k3 + 1) G _ _ rv _ [0, 1, 2, -1, 9] wz (hrT.below bz) oa.ints (.inr (by omega)) hkT (by simp) (by simp)).mono ?_
            rintro e wc ⟨y, rfl, hy, hrc, bo1⟩
            have hy1 : -1 ≤ y ∧ y ≤ 9 := by simp only [List.mem_cons, List.not_mem_nil, or_false] at hy; omega
            have gb1 := grown_only bo1
            have bg2 := grown_trans gz gb1
            have hzc := bg2.size
            have o3 := ob.kept (bo1.kept (.inr (by omega)))
            replace c00 := keepW gb1 (by first | (simp; done) | (simp; omega)) c00; replace c01 := keepW gb1 (by first | (simp; done) | (simp; omega)) c01; replace c02 := keepW gb1 (by first | (simp; done) | (simp; omega)) c02; replace x0 := keepW gb1 (by first | (simp; done) | (simp; omega)) x0; replace x1 := keepW gb1 (by first | (simp; done) | (simp; omega)) x1; replace x2 := keepW gb1 (by first | (simp; done) | (simp; omega)) x2
            replace f00 := keepWF gb1 (by first | (simp; done) | (simp; omega)) f00; replace f01 := keepWF gb1 (by first | (simp; done) | (simp; omega)) f01; replace f02 := keepWF gb1 (by first | (simp; done) | (simp; omega)) f02
            go_wp2_with fail
            refine hK.out _ _ ?_ (fun hHeld2 => ?_)
            · (first | (try dsimp only); go_keep | (go_split_ands; refine ⟨?_, ?_, ?_⟩ <;> first | exact keepB bx5 (by assumption) | exact keepB bx4 (by assumption) | exact keepB bx3 (by assumption) | exact keepB bx2 (by assumption) | exact keepB bx1 (by assumption) | exact keepO bo5 (by first | (simp; done) | (simp; omega)) (by assumption) | exact keepO bo4 (by first | (simp; done) | (simp; omega)) (by assumption) | exact keepO bo3 (by first | (simp; done) | (simp; omega)) (by assumption) | exact keepO bo2 (by first | (simp; done) | (simp; omega)) (by assumption) | exact keepO bo1 (by first | (simp; done) | (simp; omega)) (by assumption) | exact keepW bg2 (by first | (simp; done) | (simp; omega)) (by assumption) | exact keepW bg1 (by first | (simp; done) | (simp; omega)) (by assumption) | assumption))
            clear hK K hHeld
            have hHeld := hHeld2
            clear hHeld2
            try simp only [Act.put, List.setIfInBounds_toArray, List.set_cons_zero, List.set_cons_succ]
            refine wpAnyH_ready (rs := [7]) (by kernel_rfl) (by simp) ?_
            refine AllReadyH.cons (o := ⟨some 44, _, _, _, _, _⟩) rfl (fun K hK => ?_) AllReadyH.nil
            go_simp
            go_at_call 92
            refine (one_any G ((k3 + 1) + 1) G _ _ rv _ [0, 3, 5, -1, 9] wc hrc o3.ints (.inr (by omega)) (by omega) (by simp) (by simp)).mono ?_
            rintro e wd ⟨z, rfl, hz, hrd, bo2⟩
            have hz1 : -1 ≤ z ∧ z ≤ 9 := by simp only [List.mem_cons, List.not_mem_nil, or_false] at hz; omega
            have gb2 := grown_only bo2
            have bgd := grown_trans bg2 gb2
            replace c00 := keepW gb2 (by first | (simp; done) | (simp; omega)) c00; replace c01 := keepW gb2 (by first | (simp; done) | (simp; omega)) c01; replace c02 := keepW gb2 (by first | (simp; done) | (simp; omega)) c02; replace x0 := keepW gb2 (by first | (simp; done) | (simp; omega)) x0; replace x1 := keepW gb2 (by first | (simp; done) | (simp; omega)) x1; replace x2 := keepW gb2 (by first | (simp; done) | (simp; omega)) x2
            replace f00 := keepWF gb2 (by first | (simp; done) | (simp; omega)) f00; replace f01 := keepWF gb2 (by first | (simp; done) | (simp; omega)) f01; replace f02 := keepWF gb2 (by first | (simp; done) | (simp; omega)) f02
            go_wp2_with fail
            refine hK.out _ _ ?_ (fun hHeld2 => ?_)
            · (first | (try dsimp only); go_keep | (go_split_ands; refine ⟨?_, ?_, ?_⟩ <;> first | exact keepB bx5 (by assumption) | exact keepB bx4 (by assumption) | exact keepB bx3 (by assumption) | exact keepB bx2 (by assumption) | exact keepB bx1 (by assumption) | exact keepO bo5 (by first | (simp; done) | (simp; omega)) (by assumption) | exact keepO bo4 (by first | (simp; done) | (simp; omega)) (by assumption) | exact keepO bo3 (by first | (simp; done) | (simp; omega)) (by assumption) | exact keepO bo2 (by first | (simp; done) | (simp; omega)) (by assumption) | exact keepO bo1 (by first | (simp; done) | (simp; omega)) (by assumption) | exact keepW bg2 (by first | (simp; done) | (simp; omega)) (by assumption) | exact keepW bg1 (by first | (simp; done) | (simp; omega)) (by assumption) | assumption))
            clear hK K hHeld
            have hHeld := hHeld2
            clear hHeld2
            try simp only [Act.put, List.setIfInBounds_toArray, List.set_cons_zero, List.set_cons_succ]
            refine wpAnyH_ready (rs := [8]) (by kernel_rfl) (by simp) ?_
            refine AllReadyH.cons (o := ⟨none, _, _, _, _, _⟩) rfl (fun K hK => ?_) AllReadyH.nil
            go_simp
            refine hK.out _ _ ?_ (fun hHeld2 => ?_)
            · (first | (try dsimp only); go_keep | (go_split_ands; refine ⟨?_, ?_, ?_⟩ <;> first | exact keepB bx5 (by assumption) | exact keepB bx4 (by assumption) | exact keepB bx3 (by assumption) | exact keepB bx2 (by assumption) | exact keepB bx1 (by assumption) | exact keepO bo5 (by first | (simp; done) | (simp; omega)) (by assumption) | exact keepO bo4 (by first | (simp; done) | (simp; omega)) (by assumption) | exact keepO bo3 (by first | (simp; done) | (simp; omega)) (by assumption) | exact keepO bo2 (by first | (simp; done) | (simp; omega)) (by assumption) | exact keepO bo1 (by first | (simp; done) | (simp; omega)) (by assumption) | exact keepW bg2 (by first | (simp; done) | (simp; omega)) (by assumption) | exact keepW bg1 (by first | (simp; done) | (simp; omega)) (by assumption) | assumption))
            clear hK K hHeld
            have hHeld := hHeld2
            clear hHeld2
            try simp only [Act.put, List.setIfInBounds_toArray, List.set_cons_zero, List.set_cons_succ]
            refine wpAnyH_take (i := 9) (oi := ⟨some 3, _, _, _, _, _⟩) (v := _) rfl (by kernel_rfl) (by kernel_rfl) (by kernel_rfl) (fun _ _ _ h => h) (Or.inl ⟨by kernel_rfl, by intro w hSw; (try dsimp only at hSw); go_simp; try with_reducible rfl⟩) (by assumption) ?_
            simp only [Act.put, List.setIfInBounds_toArray, List.set_cons_zero, List.set_cons_succ]
            refine wpAnyH_take (i := 10) (oi := ⟨some 4, _, _, _, _, _⟩) (v := _) rfl (by kernel_rfl) (by kernel_rfl) (by kernel_rfl) (fun _ _ _ h => h) (Or.inl ⟨by kernel_rfl, by intro w hSw; (try dsimp only at hSw); go_simp; try with_reducible rfl⟩) (by assumption) ?_
            simp only [Act.put, List.setIfInBounds_toArray, List.set_cons_zero, List.set_cons_succ]
            refine wpAnyH_take (i := 11) (oi := ⟨some 5, _, _, _, _, _⟩) (v := _) rfl (by kernel_rfl) (by kernel_rfl) (by kernel_rfl) (fun _ _ _ h => h) (Or.inl ⟨by kernel_rfl, by intro w hSw; (try dsimp only at hSw); go_simp; try with_reducible rfl⟩) (by assumption) ?_
            simp only [Act.put, List.setIfInBounds_toArray, List.set_cons_zero, List.set_cons_succ]
            refine wpAnyH_done (by kernel_rfl) ?_ _
          rotate_left 1
        rotate_left 2
        focus
          go_simp
          refine hK.out _ _ ?_ (fun hHeld2 => ?_)
          · (first | (try dsimp only); go_keep | (go_split_ands; refine ⟨?_, ?_, ?_⟩ <;> first | exact keepB bx5 (by assumption) | exact keepB bx4 (by assumption) | exact keepB bx3 (by assumption) | exact keepB bx2 (by assumption) | exact keepB bx1 (by assumption) | exact keepO bo5 (by first | (simp; done) | (simp; omega)) (by assumption) | exact keepO bo4 (by first | (simp; done) | (simp; omega)) (by assumption) | exact keepO bo3 (by first | (simp; done) | (simp; omega)) (by assumption) | exact keepO bo2 (by first | (simp; done) | (simp; omega)) (by assumption) | exact keepO bo1 (by first | (simp; done) | (simp; omega)) (by assumption) | exact keepW bg2 (by first | (simp; done) | (simp; omega)) (by assumption) | exact keepW bg1 (by first | (simp; done) | (simp; omega)) (by assumption) | assumption))
          clear hK K hHeld
          have hHeld := hHeld2
          clear hHeld2
          try simp only [Act.put, List.setIfInBounds_toArray, List.set_cons_zero, List.set_cons_succ]
          refine wpAnyH_ready (rs := [3]) (by kernel_rfl) (by simp) ?_
          refine AllReadyH.cons (o := ⟨some 40, _, _, _, _, _⟩) rfl (fun K hK => ?_) AllReadyH.nil
          go_simp
          refine hK.out _ _ ?_ (fun hHeld2 => ?_)
          · (first | (try dsimp only); go_keep | (go_split_ands; refine ⟨?_, ?_, ?_⟩ <;> first | exact keepB bx5 (by assumption) | exact keepB bx4 (by assumption) | exact keepB bx3 (by assumption) | exact keepB bx2 (by assumption) | exact keepB bx1 (by assumption) | exact keepO bo5 (by first | (simp; done) | (simp; omega)) (by assumption) | exact keepO bo4 (by first | (simp; done) | (simp; omega)) (by assumption) | exact keepO bo3 (by first | (simp; done) | (simp; omega)) (by assumption) | exact keepO bo2 (by first | (simp; done) | (simp; omega)) (by assumption) | exact keepO bo1 (by first | (simp; done) | (simp; omega)) (by assumption) | exact keepW bg2 (by first | (simp; done) | (simp; omega)) (by assumption) | exact keepW bg1 (by first | (simp; done) | (simp; omega)) (by assumption) | assumption))
          clear hK K hHeld
          have hHeld := hHeld2
          clear hHeld2
          try simp only [Act.put, List.setIfInBounds_toArray, List.set_cons_zero, List.set_cons_succ]
          refine wpAnyH_ready (rs := [4]) (by kernel_rfl) (by simp) ?_
          refine AllReadyH.cons (o := ⟨some 41, _, _, _, _, _⟩) rfl (fun K hK => ?_) AllReadyH.nil
          go_simp
          go_at_call 92
          obtain ⟨wz, hwz⟩ : ∃ wz, wz = ((w8.alloc (.cells #[.int .i64 0, .int .i64 3, .int .i64 5, .int .i64 (-1), .int .i64 9] 3)).alloc (.cells #[.int .i64 0, .int .i64 1, .int .i64 2, .int .i64 (-1), .int .i64 9] 3)).drew := ⟨_, rfl⟩
          have oa : OwnI wz w8.heap.size 3 (.slice (some ⟨w8.heap.size, 0, none⟩) 5 5) [0, 3, 5, -1, 9] := by rw [hwz]; exact ((lit_own w8 3 [0, 3, 5, -1, 9] (by simp) (by unfold I64; simp)).alloc _).drew
          have ob : OwnI wz (w8.heap.size + 1) 3 (.slice (some ⟨w8.heap.size + 1, 0, none⟩) 5 5) [0, 1, 2, -1, 9] := by rw [hwz]; have h9 := (lit_own (w8.alloc (.cells #[.int .i64 0, .int .i64 3, .int .i64 5, .int .i64 (-1), .int .i64 9] 3)) 3 [0, 1, 2, -1, 9] (by simp) (by unfold I64; simp)).drew; simpa using h9
          have bz : Below w8.heap.size w8 wz := by rw [hwz]; exact (((Below.refl _ _).alloc (Nat.le_refl _) _).alloc (by simp) _).trans ((Qt.one _ 1).below _)
          have hzz : w8.heap.size + 2 ≤ wz.heap.size := by rw [hwz]; simp
          rw [← hwz]
          clear hwz
          have gz := grown_below bz (some G)
          replace c00 := keepW gz (by first | (simp; done) | (simp; omega)) c00; replace c01 := keepW gz (by first | (simp; done) | (simp; omega)) c01; replace c02 := keepW gz (by first | (simp; done) | (simp; omega)) c02; replace x0 := keepW gz (by first | (simp; done) | (simp; omega)) x0; replace x1 := keepW gz (by first | (simp; done) | (simp; omega)) x1; replace x2 := keepW gz (by first | (simp; done) | (simp; omega)) x2
          replace f00 := keepWF gz (by first | (simp; done) | (simp; omega)) f00; replace f01 := keepWF gz (by first | (simp; done) | (simp; omega)) f01; replace f02 := keepWF gz (by first | (simp; done) | (simp; omega)) f02
          refine (one_any G (k3 + 1) G _ _ rv _ [0, 1, 2, -1, 9] wz (hrT.below bz) ob.ints (.inr (by omega)) hkT (by simp) (by simp)).mono ?_
          rintro e wc ⟨y, rfl, hy, hrc, bo1⟩
          have hy1 : -1 ≤ y ∧ y ≤ 9 := by simp only [List.mem_cons, List.not_mem_nil, or_false] at hy; omega
          have gb1 := grown_only bo1
          have bg2 := grown_trans gz gb1
          have hzc := bg2.size
          have o3 := oa.kept (bo1.kept (.inr (by omega)))
          replace c00 := keepW gb1 (by first | (simp; done) | (simp; omega)) c00; replace c01 := keepW gb1 (by first | (simp; done) | (simp; omega)) c01; replace c02 := keepW gb1 (by first | (simp; done) | (simp; omega)) c02; replace x0 := keepW gb1 (by first | (simp; done) | (simp; omega)) x0; replace x1 := keepW gb1 (by first | (simp; done) | (simp; omega)) x1; replace x2 := keepW gb1 (by first | (simp; done) | (simp; omega)) x2
          replace f00 := keepWF gb1 (by first | (simp; done) | (simp; omega)) f00; replace f01 := keepWF gb1 (by first | (simp; done) | (simp; omega)) f01; replace f02 := keepWF gb1 (by first | (simp; done) | (simp; omega)) f02
          go_wp2_with fail
          refine hK.out _ _ ?_ (fun hHeld2 => ?_)
          · (first | (try dsimp only); go_keep | (go_split_ands; refine ⟨?_, ?_, ?_⟩ <;> first | exact keepB bx5 (by assumption) | exact keepB bx4 (by assumption) | exact keepB bx3 (by assumption) | exact keepB bx2 (by assumption) | exact keepB bx1 (by assumption) | exact keepO bo5 (by first | (simp; done) | (simp; omega)) (by assumption) | exact keepO bo4 (by first | (simp; done) | (simp; omega)) (by assumption) | exact keepO bo3 (by first | (simp; done) | (simp; omega)) (by assumption) | exact keepO bo2 (by first | (simp; done) | (simp; omega)) (by assumption) | exact keepO bo1 (by first | (simp; done) | (simp; omega)) (by assumption) | exact keepW bg2 (by first | (simp; done) | (simp; omega)) (by assumption) | exact keepW bg1 (by first | (simp; done) | (simp; omega)) (by assumption) | assumption))
          clear hK K hHeld
          have hHeld := hHeld2
          clear hHeld2
          try simp only [Act.put, List.setIfInBounds_toArray, List.set_cons_zero, List.set_cons_succ]
          refine wpAnyH_ready (rs := [7]) (by kernel_rfl) (by simp) ?_
          refine AllReadyH.cons (o := ⟨some 44, _, _, _, _, _⟩) rfl (fun K hK => ?_) AllReadyH.nil
          go_simp
          go_at_call 92
          refine (one_any G ((k3 + 1) + 1) G _ _ rv _ [0, 3, 5, -1, 9] wc hrc o3.ints (.inr (by omega)) (by omega) (by simp) (by simp)).mono ?_
          rintro e wd ⟨z, rfl, hz, hrd, bo2⟩
          have hz1 : -1 ≤ z ∧ z ≤ 9 := by simp only [List.mem_cons, List.not_mem_nil, or_false] at hz; omega
          have gb2 := grown_only bo2
          have bgd := grown_trans bg2 gb2
          replace c00 := keepW gb2 (by first | (simp; done) | (simp; omega)) c00; replace c01 := keepW gb2 (by first | (simp; done) | (simp; omega)) c01; replace c02 := keepW gb2 (by first | (simp; done) | (simp; omega)) c02; replace x0 := keepW gb2 (by first | (simp; done) | (simp; omega)) x0; replace x1 := keepW gb2 (by first | (simp; done) | (simp; omega)) x1; replace x2 := keepW gb2 (by first | (simp; done) | (simp; omega)) x2
          replace f00 := keepWF gb2 (by first | (simp; done) | (simp; omega)) f00; replace f01 := keepWF gb2 (by first | (simp; done) | (simp; omega)) f01; replace f02 := keepWF gb2 (by first | (simp; done) | (simp; omega)) f02
          go_wp2_with fail
          refine hK.out _ _ ?_ (fun hHeld2 => ?_)
          · (first | (try dsimp only); go_keep | (go_split_ands; refine ⟨?_, ?_, ?_⟩ <;> first | exact keepB bx5 (by assumption) | exact keepB bx4 (by assumption) | exact keepB bx3 (by assumption) | exact keepB bx2 (by assumption) | exact keepB bx1 (by assumption) | exact keepO bo5 (by first | (simp; done) | (simp; omega)) (by assumption) | exact keepO bo4 (by first | (simp; done) | (simp; omega)) (by assumption) | exact keepO bo3 (by first | (simp; done) | (simp; omega)) (by assumption) | exact keepO bo2 (by first | (simp; done) | (simp; omega)) (by assumption) | exact keepO bo1 (by first | (simp; done) | (simp; omega)) (by assumption) | exact keepW bg2 (by first | (simp; done) | (simp; omega)) (by assumption) | exact keepW bg1 (by first | (simp; done) | (simp; omega)) (by assumption) | assumption))
          clear hK K hHeld
          have hHeld := hHeld2
          clear hHeld2
          try simp only [Act.put, List.setIfInBounds_toArray, List.set_cons_zero, List.set_cons_succ]
          refine wpAnyH_ready (rs := [8]) (by kernel_rfl) (by simp) ?_
          refine AllReadyH.cons (o := ⟨none, _, _, _, _, _⟩) rfl (fun K hK => ?_) AllReadyH.nil
          go_simp
          refine hK.out _ _ ?_ (fun hHeld2 => ?_)
          · (first | (try dsimp only); go_keep | (go_split_ands; refine ⟨?_, ?_, ?_⟩ <;> first | exact keepB bx5 (by assumption) | exact keepB bx4 (by assumption) | exact keepB bx3 (by assumption) | exact keepB bx2 (by assumption) | exact keepB bx1 (by assumption) | exact keepO bo5 (by first | (simp; done) | (simp; omega)) (by assumption) | exact keepO bo4 (by first | (simp; done) | (simp; omega)) (by assumption) | exact keepO bo3 (by first | (simp; done) | (simp; omega)) (by assumption) | exact keepO bo2 (by first | (simp; done) | (simp; omega)) (by assumption) | exact keepO bo1 (by first | (simp; done) | (simp; omega)) (by assumption) | exact keepW bg2 (by first | (simp; done) | (simp; omega)) (by assumption) | exact keepW bg1 (by first | (simp; done) | (simp; omega)) (by assumption) | assumption))
          clear hK K hHeld
          have hHeld := hHeld2
          clear hHeld2
          try simp only [Act.put, List.setIfInBounds_toArray, List.set_cons_zero, List.set_cons_succ]
          refine wpAnyH_take (i := 9) (oi := ⟨some 3, _, _, _, _, _⟩) (v := _) rfl (by kernel_rfl) (by kernel_rfl) (by kernel_rfl) (fun _ _ _ h => h) (Or.inl ⟨by kernel_rfl, by intro w hSw; (try dsimp only at hSw); go_simp; try with_reducible rfl⟩) (by assumption) ?_
          simp only [Act.put, List.setIfInBounds_toArray, List.set_cons_zero, List.set_cons_succ]
          refine wpAnyH_take (i := 10) (oi := ⟨some 4, _, _, _, _, _⟩) (v := _) rfl (by kernel_rfl) (by kernel_rfl) (by kernel_rfl) (fun _ _ _ h => h) (Or.inl ⟨by kernel_rfl, by intro w hSw; (try dsimp only at hSw); go_simp; try with_reducible rfl⟩) (by assumption) ?_
          simp only [Act.put, List.setIfInBounds_toArray, List.set_cons_zero, List.set_cons_succ]
          refine wpAnyH_take (i := 11) (oi := ⟨some 5, _, _, _, _, _⟩) (v := _) rfl (by kernel_rfl) (by kernel_rfl) (by kernel_rfl) (fun _ _ _ h => h) (Or.inl ⟨by kernel_rfl, by intro w hSw; (try dsimp only at hSw); go_simp; try with_reducible rfl⟩) (by assumption) ?_
          simp only [Act.put, List.setIfInBounds_toArray, List.set_cons_zero, List.set_cons_succ]
          refine wpAnyH_done (by kernel_rfl) ?_ _
        rotate_left 1
        all_goals
          have hbc := hbT.trans (below_of_grown bgd (B := w.heap.size) (by omega) (by omega))
          go_wp2
          refine bodyPost_ret (v := .tuple #[.agg #[.int .i64 W, .int .i64 L, .slice A ds.length c], .slice A8 PS.length c8, .int .i64 y, .int .i64 z]) (by simp [results, Try.results54, go_sem, *]) rfl ⟨W, L, _, _, ds, PS, y, z, rfl, ?_, ?_, hy1, hz1, ((hbc.setCell (Nat.le_refl _) _).setCell (Nat.le_refl _) _).setCell (Nat.le_refl _) _⟩
          · exact ((((HoT.out.kept (Kept.of_grown bgd (Nat.le_refl _) (.inl (by omega)))).setBelow (by show w.heap.size < _; omega) _).setBelow (by show w.heap.size < _; omega) _).setBelow (by show w.heap.size < _; omega) _).base (by omega)
          · exact ((((HpT.out.kept (Kept.of_grown bgd (Nat.le_refl _) (.inl (by omega)))).setBelow (by show w.heap.size < _; omega) _).setBelow (by show w.heap.size < _; omega) _).setBelow (by show w.heap.size < _; omega) _).base (by omega)
      · 
        have hrT := hr6
        have hkT : _ ≤ 1000000 := hk6
        have HoT := Lib.hid (Ho6.out)
        have HpT := Lib.hid (Hp6.out)
        have hbT := hb6
        have hzT : w3.heap.size + 1 ≤ w6.heap.size := hz6
        clear hr6 hk6 Ho6 Hp6 hb6 hz6
        have hne1 : ¬ w3.heap.size = w.heap.size := by omega
        have hne2 : ¬ w.heap.size = w3.heap.size := by omega
        go_wp2
        refine wp_region_held_drew (S := fun w' => w'.cell? ⟨w3.heap.size, 0, none⟩ = some (.int .i64 W) ∧ w'.cell? ⟨w3.heap.size, 1, none⟩ = some (.int .i64 L) ∧ w'.cell? ⟨w3.heap.size, 2, none⟩ = some (.slice A ds.length c)) (by kernel_rfl) ?_ (fun hHeld => ?_)
        · (first | (try dsimp only); go_keep | (go_split_ands; refine ⟨?_, ?_, ?_⟩ <;> first | exact keepB bx5 (by assumption) | exact keepB bx4 (by assumption) | exact keepB bx3 (by assumption) | exact keepB bx2 (by assumption) | exact keepB bx1 (by assumption) | exact keepO bo5 (by first | (simp; done) | (simp; omega)) (by assumption) | exact keepO bo4 (by first | (simp; done) | (simp; omega)) (by assumption) | exact keepO bo3 (by first | (simp; done) | (simp; omega)) (by assumption) | exact keepO bo2 (by first | (simp; done) | (simp; omega)) (by assumption) | exact keepO bo1 (by first | (simp; done) | (simp; omega)) (by assumption) | exact keepW bg2 (by first | (simp; done) | (simp; omega)) (by assumption) | exact keepW bg1 (by first | (simp; done) | (simp; omega)) (by assumption) | assumption))
        refine wpAnyH_take (i := 0) (oi := ⟨some 37, _, _, _, _, _⟩) (v := _) rfl (by kernel_rfl) (by kernel_rfl) (by kernel_rfl) (fun _ _ _ h => h) (Or.inl ⟨by kernel_rfl, by intro w hSw; (try dsimp only at hSw); go_simp; try with_reducible rfl⟩) (by assumption) ?_
        simp only [Act.put, List.setIfInBounds_toArray, List.set_cons_zero, List.set_cons_succ]
        refine wpAnyH_take (i := 1) (oi := ⟨some 38, _, _, _, _, _⟩) (v := _) rfl (by kernel_rfl) (by kernel_rfl) (by kernel_rfl) (fun _ _ _ h => h) (Or.inl ⟨by kernel_rfl, by intro w hSw; (try dsimp only at hSw); go_simp; try with_reducible rfl⟩) (by assumption) ?_
        simp only [Act.put, List.setIfInBounds_toArray, List.set_cons_zero, List.set_cons_succ]
        refine wpAnyH_take (i := 2) (oi := ⟨some 39, _, _, _, _, _⟩) (v := _) rfl (by kernel_rfl) (by kernel_rfl) (by kernel_rfl) (fun _ _ _ h => h) (Or.inl ⟨by kernel_rfl, by intro w hSw; (try dsimp only at hSw); go_simp; try with_reducible rfl⟩) (by assumption) ?_
        simp only [Act.put, List.setIfInBounds_toArray, List.set_cons_zero, List.set_cons_succ]
        refine wpAnyH_take (i := 5) (oi := ⟨some 42, _, _, _, _, _⟩) (v := _) rfl (by kernel_rfl) (by kernel_rfl) (by kernel_rfl) (fun _ _ _ h => h) (Or.inl ⟨by kernel_rfl, by intro w hSw; (try dsimp only at hSw); go_simp; try with_reducible rfl⟩) (by assumption) ?_
        simp only [Act.put, List.setIfInBounds_toArray, List.set_cons_zero, List.set_cons_succ]
        refine wpAnyH_ready (rs := [3, 6]) (by kernel_rfl) (by simp) (AllReadyH.cons (o := ⟨some 40, _, _, _, _, _⟩) rfl (fun K hK => ?_) (AllReadyH.cons (o := ⟨some 43, _, _, _, _, _⟩) rfl (fun K hK => ?_) (AllReadyH.nil)))
        focus
          go_simp
          refine hK.out _ _ ?_ (fun hHeld2 => ?_)
          · (first | (try dsimp only); go_keep | (go_split_ands; refine ⟨?_, ?_, ?_⟩ <;> first | exact keepB bx5 (by assumption) | exact keepB bx4 (by assumption) | exact keepB bx3 (by assumption) | exact keepB bx2 (by assumption) | exact keepB bx1 (by assumption) | exact keepO bo5 (by first | (simp; done) | (simp; omega)) (by assumption) | exact keepO bo4 (by first | (simp; done) | (simp; omega)) (by assumption) | exact keepO bo3 (by first | (simp; done) | (simp; omega)) (by assumption) | exact keepO bo2 (by first | (simp; done) | (simp; omega)) (by assumption) | exact keepO bo1 (by first | (simp; done) | (simp; omega)) (by assumption) | exact keepW bg2 (by first | (simp; done) | (simp; omega)) (by assumption) | exact keepW bg1 (by first | (simp; done) | (simp; omega)) (by assumption) | assumption))
          clear hK K hHeld
          have hHeld := hHeld2
          clear hHeld2
          try simp only [Act.put, List.setIfInBounds_toArray, List.set_cons_zero, List.set_cons_succ]
          refine wpAnyH_ready (rs := [4, 6]) (by kernel_rfl) (by simp) (AllReadyH.cons (o := ⟨some 41, _, _, _, _, _⟩) rfl (fun K hK => ?_) (AllReadyH.cons (o := ⟨some 43, _, _, _, _, _⟩) rfl (fun K hK => ?_) (AllReadyH.nil)))
          focus
            go_simp
            go_at_call 92
            rw [show (w6.alloc (.cells #[.int .i64 0, .int .i64 1, .int .i64 2, .int .i64 (-1), .int .i64 9] 3)).drew = w6.drew.alloc (.cells #[.int .i64 0, .int .i64 1, .int .i64 2, .int .i64 (-1), .int .i64 9] 3) from rfl]
            refine (one_lit G (k3 + 1) G rv [0, 1, 2, -1, 9] w6.drew _ 5 w6.heap.size hrT.drew hkT rfl rfl rfl (by simp) (by simp) (by unfold I64; simp)).mono ?_
            rintro e wc ⟨y, rfl, hy, hrc, bg3⟩
            have hy1 : -1 ≤ y ∧ y ≤ 9 := by simp only [List.mem_cons, List.not_mem_nil, or_false] at hy; omega
            have bg2 := grown_drew bg3
            have hzc := bg2.size
            replace c00 := keepW bg2 (by first | (simp; done) | (simp; omega)) c00; replace c01 := keepW bg2 (by first | (simp; done) | (simp; omega)) c01; replace c02 := keepW bg2 (by first | (simp; done) | (simp; omega)) c02; replace x0 := keepW bg2 (by first | (simp; done) | (simp; omega)) x0; replace x1 := keepW bg2 (by first | (simp; done) | (simp; omega)) x1; replace x2 := keepW bg2 (by first | (simp; done) | (simp; omega)) x2
            replace f00 := keepWF bg2 (by first | (simp; done) | (simp; omega)) f00; replace f01 := keepWF bg2 (by first | (simp; done) | (simp; omega)) f01; replace f02 := keepWF bg2 (by first | (simp; done) | (simp; omega)) f02
            go_wp2_with fail
            refine hK.out _ _ ?_ (fun hHeld2 => ?_)
            · (first | (try dsimp only); go_keep | (go_split_ands; refine ⟨?_, ?_, ?_⟩ <;> first | exact keepB bx5 (by assumption) | exact keepB bx4 (by assumption) | exact keepB bx3 (by assumption) | exact keepB bx2 (by assumption) | exact keepB bx1 (by assumption) | exact keepO bo5 (by first | (simp; done) | (simp; omega)) (by assumption) | exact keepO bo4 (by first | (simp; done) | (simp; omega)) (by assumption) | exact keepO bo3 (by first | (simp; done) | (simp; omega)) (by assumption) | exact keepO bo2 (by first | (simp; done) | (simp; omega)) (by assumption) | exact keepO bo1 (by first | (simp; done) | (simp; omega)) (by assumption) | exact keepW bg2 (by first | (simp; done) | (simp; omega)) (by assumption) | exact keepW bg1 (by first | (simp; done) | (simp; omega)) (by assumption) | assumption))
            clear hK K hHeld
            have hHeld := hHeld2
            clear hHeld2
            try simp only [Act.put, List.setIfInBounds_toArray, List.set_cons_zero, List.set_cons_succ]
            refine wpAnyH_ready (rs := [6]) (by kernel_rfl) (by simp) ?_
            refine AllReadyH.cons (o := ⟨some 43, _, _, _, _, _⟩) rfl (fun K hK => ?_) AllReadyH.nil
            go_simp
            refine hK.out _ _ ?_ (fun hHeld2 => ?_)
            · (first | (try dsimp only); go_keep | (go_split_ands; refine ⟨?_, ?_, ?_⟩ <;> first | exact keepB bx5 (by assumption) | exact keepB bx4 (by assumption) | exact keepB bx3 (by assumption) | exact keepB bx2 (by assumption) | exact keepB bx1 (by assumption) | exact keepO bo5 (by first | (simp; done) | (simp; omega)) (by assumption) | exact keepO bo4 (by first | (simp; done) | (simp; omega)) (by assumption) | exact keepO bo3 (by first | (simp; done) | (simp; omega)) (by assumption) | exact keepO bo2 (by first | (simp; done) | (simp; omega)) (by assumption) | exact keepO bo1 (by first | (simp; done) | (simp; omega)) (by assumption) | exact keepW bg2 (by first | (simp; done) | (simp; omega)) (by assumption) | exact keepW bg1 (by first | (simp; done) | (simp; omega)) (by assumption) | assumption))
            clear hK K hHeld
            have hHeld := hHeld2
            clear hHeld2
            try simp only [Act.put, List.setIfInBounds_toArray, List.set_cons_zero, List.set_cons_succ]
            refine wpAnyH_ready (rs := [7]) (by kernel_rfl) (by simp) ?_
            refine AllReadyH.cons (o := ⟨some 44, _, _, _, _, _⟩) rfl (fun K hK => ?_) AllReadyH.nil
            go_simp
            go_at_call 92
            refine (one_lit G ((k3 + 1) + 1) G rv [0, 3, 5, -1, 9] wc _ 5 wc.heap.size hrc (by omega) rfl rfl rfl (by simp) (by simp) (by unfold I64; simp)).mono ?_
            rintro e wd ⟨z, rfl, hz, hrd, bg4⟩
            have hz1 : -1 ≤ z ∧ z ≤ 9 := by simp only [List.mem_cons, List.not_mem_nil, or_false] at hz; omega
            have bgd := grown_trans bg2 bg4
            replace c00 := keepW bg4 (by first | (simp; done) | (simp; omega)) c00; replace c01 := keepW bg4 (by first | (simp; done) | (simp; omega)) c01; replace c02 := keepW bg4 (by first | (simp; done) | (simp; omega)) c02; replace x0 := keepW bg4 (by first | (simp; done) | (simp; omega)) x0; replace x1 := keepW bg4 (by first | (simp; done) | (simp; omega)) x1; replace x2 := keepW bg4 (by first | (simp; done) | (simp; omega)) x2
            replace f00 := keepWF bg4 (by first | (simp; done) | (simp; omega)) f00; replace f01 := keepWF bg4 (by first | (simp; done) | (simp; omega)) f01; replace f02 := keepWF bg4 (by first | (simp; done) | (simp; omega)) f02
            go_wp2_with fail
            refine hK.out _ _ ?_ (fun hHeld2 => ?_)
            · (first | (try dsimp only); go_keep | (go_split_ands; refine ⟨?_, ?_, ?_⟩ <;> first | exact keepB bx5 (by assumption) | exact keepB bx4 (by assumption) | exact keepB bx3 (by assumption) | exact keepB bx2 (by assumption) | exact keepB bx1 (by assumption) | exact keepO bo5 (by first | (simp; done) | (simp; omega)) (by assumption) | exact keepO bo4 (by first | (simp; done) | (simp; omega)) (by assumption) | exact keepO bo3 (by first | (simp; done) | (simp; omega)) (by assumption) | exact keepO bo2 (by first | (simp; done) | (simp; omega)) (by assumption) | exact keepO bo1 (by first | (simp; done) | (simp; omega)) (by assumption) | exact keepW bg2 (by first | (simp; done) | (simp; omega)) (by assumption) | exact keepW bg1 (by first | (simp; done) | (simp; omega)) (by assumption) | assumption))
            clear hK K hHeld
            have hHeld := hHeld2
            clear hHeld2
            try simp only [Act.put, List.setIfInBounds_toArray, List.set_cons_zero, List.set_cons_succ]
            refine wpAnyH_ready (rs := [8]) (by kernel_rfl) (by simp) ?_
            refine AllReadyH.cons (o := ⟨none, _, _, _, _, _⟩) rfl (fun K hK => ?_) AllReadyH.nil
            go_simp
            refine hK.out _ _ ?_ (fun hHeld2 => ?_)
            · (first | (try dsimp only); go_keep | (go_split_ands; refine ⟨?_, ?_, ?_⟩ <;> first | exact keepB bx5 (by assumption) | exact keepB bx4 (by assumption) | exact keepB bx3 (by assumption) | exact keepB bx2 (by assumption) | exact keepB bx1 (by assumption) | exact keepO bo5 (by first | (simp; done) | (simp; omega)) (by assumption) | exact keepO bo4 (by first | (simp; done) | (simp; omega)) (by assumption) | exact keepO bo3 (by first | (simp; done) | (simp; omega)) (by assumption) | exact keepO bo2 (by first | (simp; done) | (simp; omega)) (by assumption) | exact keepO bo1 (by first | (simp; done) | (simp; omega)) (by assumption) | exact keepW bg2 (by first | (simp; done) | (simp; omega)) (by assumption) | exact keepW bg1 (by first | (simp; done) | (simp; omega)) (by assumption) | assumption))
            clear hK K hHeld
            have hHeld := hHeld2
            clear hHeld2
            try simp only [Act.put, List.setIfInBounds_toArray, List.set_cons_zero, List.set_cons_succ]
            refine wpAnyH_take (i := 9) (oi := ⟨some 3, _, _, _, _, _⟩) (v := _) rfl (by kernel_rfl) (by kernel_rfl) (by kernel_rfl) (fun _ _ _ h => h) (Or.inl ⟨by kernel_rfl, by intro w hSw; (try dsimp only at hSw); go_simp; try with_reducible rfl⟩) (by assumption) ?_
            simp only [Act.put, List.setIfInBounds_toArray, List.set_cons_zero, List.set_cons_succ]
            refine wpAnyH_take (i := 10) (oi := ⟨some 4, _, _, _, _, _⟩) (v := _) rfl (by kernel_rfl) (by kernel_rfl) (by kernel_rfl) (fun _ _ _ h => h) (Or.inl ⟨by kernel_rfl, by intro w hSw; (try dsimp only at hSw); go_simp; try with_reducible rfl⟩) (by assumption) ?_
            simp only [Act.put, List.setIfInBounds_toArray, List.set_cons_zero, List.set_cons_succ]
            refine wpAnyH_take (i := 11) (oi := ⟨some 5, _, _, _, _, _⟩) (v := _) rfl (by kernel_rfl) (by kernel_rfl) (by kernel_rfl) (fun _ _ _ h => h) (Or.inl ⟨by kernel_rfl, by intro w hSw; (try dsimp only at hSw); go_simp; try with_reducible rfl⟩) (by assumption) ?_
            simp only [Act.put, List.setIfInBounds_toArray, List.set_cons_zero, List.set_cons_succ]
            refine wpAnyH_done (by kernel_rfl) ?_ _
          rotate_left 1
          focus
            go_simp
            refine hK.out _ _ ?_ (fun hHeld2 => ?_)
            · (first | (try dsimp only); go_keep | (go_split_ands; refine ⟨?_, ?_, ?_⟩ <;> first | exact keepB bx5 (by assumption) | exact keepB bx4 (by assumption) | exact keepB bx3 (by assumption) | exact keepB bx2 (by assumption) | exact keepB bx1 (by assumption) | exact keepO bo5 (by first | (simp; done) | (simp; omega)) (by assumption) | exact keepO bo4 (by first | (simp; done) | (simp; omega)) (by assumption) | exact keepO bo3 (by first | (simp; done) | (simp; omega)) (by assumption) | exact keepO bo2 (by first | (simp; done) | (simp; omega)) (by assumption) | exact keepO bo1 (by first | (simp; done) | (simp; omega)) (by assumption) | exact keepW bg2 (by first | (simp; done) | (simp; omega)) (by assumption) | exact keepW bg1 (by first | (simp; done) | (simp; omega)) (by assumption) | assumption))
            clear hK K hHeld
            have hHeld := hHeld2
            clear hHeld2
            try simp only [Act.put, List.setIfInBounds_toArray, List.set_cons_zero, List.set_cons_succ]
            refine wpAnyH_ready (rs := [4]) (by kernel_rfl) (by simp) ?_
            refine AllReadyH.cons (o := ⟨some 41, _, _, _, _, _⟩) rfl (fun K hK => ?_) AllReadyH.nil
            go_simp
            go_at_call 92
            obtain ⟨wz, hwz⟩ : ∃ wz, wz = ((w6.alloc (.cells #[.int .i64 0, .int .i64 1, .int .i64 2, .int .i64 (-1), .int .i64 9] 3)).alloc (.cells #[.int .i64 0, .int .i64 3, .int .i64 5, .int .i64 (-1), .int .i64 9] 3)).drew := ⟨_, rfl⟩
            have oa : OwnI wz w6.heap.size 3 (.slice (some ⟨w6.heap.size, 0, none⟩) 5 5) [0, 1, 2, -1, 9] := by rw [hwz]; exact ((lit_own w6 3 [0, 1, 2, -1, 9] (by simp) (by unfold I64; simp)).alloc _).drew
            have ob : OwnI wz (w6.heap.size + 1) 3 (.slice (some ⟨w6.heap.size + 1, 0, none⟩) 5 5) [0, 3, 5, -1, 9] := by rw [hwz]; have h9 := (lit_own (w6.alloc (.cells #[.int .i64 0, .int .i64 1, .int .i64 2, .int .i64 (-1), .int .i64 9] 3)) 3 [0, 3, 5, -1, 9] (by simp) (by unfold I64; simp)).drew; simpa using h9
            have bz : Below w6.heap.size w6 wz := by rw [hwz]; exact (((Below.refl _ _).alloc (Nat.le_refl _) _).alloc (by simp) _).trans ((Qt.one _ 1).below _)
            have hzz : w6.heap.size + 2 ≤ wz.heap.size := by rw [hwz]; simp
            rw [← hwz]
            clear hwz
            have gz := grown_below bz (some G)
            replace c00 := keepW gz (by first | (simp; done) | (simp; omega)) c00; replace c01 := keepW gz (by first | (simp; done) | (simp; omega)) c01; replace c02 := keepW gz (by first | (simp; done) | (simp; omega)) c02; replace x0 := keepW gz (by first | (simp; done) | (simp; omega)) x0; replace x1 := keepW gz (by first | (simp; done) | (simp; omega)) x1; replace x2 := keepW gz (by first | (simp; done) | (simp; omega)) x2
            replace f00 := keepWF gz (by first | (simp; done) | (simp; omega)) f00; replace f01 := keepWF gz (by first | (simp; done) | (simp; omega)) f01; replace f02 := keepWF gz (by first | (simp; done) | (simp; omega)) f02
            refine (one_any G (k3 + 1) G _ _ rv _ [0, 1, 2, -1, 9] wz (hrT.below bz) oa.ints (.inr (by omega)) hkT (by simp) (by simp)).mono ?_
            rintro e wc ⟨y, rfl, hy, hrc, bo1⟩
            have hy1 : -1 ≤ y ∧ y ≤ 9 := by simp only [List.mem_cons, List.not_mem_nil, or_false] at hy; omega
            have gb1 := grown_only bo1
            have bg2 := grown_trans gz gb1
            have hzc := bg2.size
            have o3 := ob.kept (bo1.kept (.inr (by omega)))
            replace c00 := keepW gb1 (by first | (simp; done) | (simp; omega)) c00; replace c01 := keepW gb1 (by first | (simp; done) | (simp; omega)) c01; replace c02 := keepW gb1 (by first | (simp; done) | (simp; omega)) c02; replace x0 := keepW gb1 (by first | (simp; done) | (simp; omega)) x0; replace x1 := keepW gb1 (by first | (simp; done) | (simp; omega)) x1; replace x2 := keepW gb1 (by first | (simp; done) | (simp; omega)) x2
            replace f00 := keepWF gb1 (by first | (simp; done) | (simp; omega)) f00; replace f01 := keepWF gb1 (by first | (simp; done) | (simp; omega)) f01; replace f02 := keepWF gb1 (by first | (simp; done) | (simp; omega)) f02
            go_wp2_with fail
            refine hK.out _ _ ?_ (fun hHeld2 => ?_)
            · (first | (try dsimp only); go_keep | (go_split_ands; refine ⟨?_, ?_, ?_⟩ <;> first | exact keepB bx5 (by assumption) | exact keepB bx4 (by assumption) | exact keepB bx3 (by assumption) | exact keepB bx2 (by assumption) | exact keepB bx1 (by assumption) | exact keepO bo5 (by first | (simp; done) | (simp; omega)) (by assumption) | exact keepO bo4 (by first | (simp; done) | (simp; omega)) (by assumption) | exact keepO bo3 (by first | (simp; done) | (simp; omega)) (by assumption) | exact keepO bo2 (by first | (simp; done) | (simp; omega)) (by assumption) | exact keepO bo1 (by first | (simp; done) | (simp; omega)) (by assumption) | exact keepW bg2 (by first | (simp; done) | (simp; omega)) (by assumption) | exact keepW bg1 (by first | (simp; done) | (simp; omega)) (by assumption) | assumption))
            clear hK K hHeld
            have hHeld := hHeld2
            clear hHeld2
            try simp only [Act.put, List.setIfInBounds_toArray, List.set_cons_zero, List.set_cons_succ]
            refine wpAnyH_ready (rs := [7]) (by kernel_rfl) (by simp) ?_
            refine AllReadyH.cons (o := ⟨some 44, _, _, _, _, _⟩) rfl (fun K hK => ?_) AllReadyH.nil
            go_simp
            go_at_call 92
            refine (one_any G ((k3 + 1) + 1) G _ _ rv _ [0, 3, 5, -1, 9] wc hrc o3.ints (.inr (by omega)) (by omega) (by simp) (by simp)).mono ?_
            rintro e wd ⟨z, rfl, hz, hrd, bo2⟩
            have hz1 : -1 ≤ z ∧ z ≤ 9 := by simp only [List.mem_cons, List.not_mem_nil, or_false] at hz; omega
            have gb2 := grown_only bo2
            have bgd := grown_trans bg2 gb2
            replace c00 := keepW gb2 (by first | (simp; done) | (simp; omega)) c00; replace c01 := keepW gb2 (by first | (simp; done) | (simp; omega)) c01; replace c02 := keepW gb2 (by first | (simp; done) | (simp; omega)) c02; replace x0 := keepW gb2 (by first | (simp; done) | (simp; omega)) x0; replace x1 := keepW gb2 (by first | (simp; done) | (simp; omega)) x1; replace x2 := keepW gb2 (by first | (simp; done) | (simp; omega)) x2
            replace f00 := keepWF gb2 (by first | (simp; done) | (simp; omega)) f00; replace f01 := keepWF gb2 (by first | (simp; done) | (simp; omega)) f01; replace f02 := keepWF gb2 (by first | (simp; done) | (simp; omega)) f02
            go_wp2_with fail
            refine hK.out _ _ ?_ (fun hHeld2 => ?_)
            · (first | (try dsimp only); go_keep | (go_split_ands; refine ⟨?_, ?_, ?_⟩ <;> first | exact keepB bx5 (by assumption) | exact keepB bx4 (by assumption) | exact keepB bx3 (by assumption) | exact keepB bx2 (by assumption) | exact keepB bx1 (by assumption) | exact keepO bo5 (by first | (simp; done) | (simp; omega)) (by assumption) | exact keepO bo4 (by first | (simp; done) | (simp; omega)) (by assumption) | exact keepO bo3 (by first | (simp; done) | (simp; omega)) (by assumption) | exact keepO bo2 (by first | (simp; done) | (simp; omega)) (by assumption) | exact keepO bo1 (by first | (simp; done) | (simp; omega)) (by assumption) | exact keepW bg2 (by first | (simp; done) | (simp; omega)) (by assumption) | exact keepW bg1 (by first | (simp; done) | (simp; omega)) (by assumption) | assumption))
            clear hK K hHeld
            have hHeld := hHeld2
            clear hHeld2
            try simp only [Act.put, List.setIfInBounds_toArray, List.set_cons_zero, List.set_cons_succ]
            refine wpAnyH_ready (rs := [8]) (by kernel_rfl) (by simp) ?_
            refine AllReadyH.cons (o := ⟨none, _, _, _, _, _⟩) rfl (fun K hK => ?_) AllReadyH.nil
            go_simp
            refine hK.out _ _ ?_ (fun hHeld2 => ?_)
            · (first | (try dsimp only); go_keep | (go_split_ands; refine ⟨?_, ?_, ?_⟩ <;> first | exact keepB bx5 (by assumption) | exact keepB bx4 (by assumption) | exact keepB bx3 (by assumption) | exact keepB bx2 (by assumption) | exact keepB bx1 (by assumption) | exact keepO bo5 (by first | (simp; done) | (simp; omega)) (by assumption) | exact keepO bo4 (by first | (simp; done) | (simp; omega)) (by assumption) | exact keepO bo3 (by first | (simp; done) | (simp; omega)) (by assumption) | exact keepO bo2 (by first | (simp; done) | (simp; omega)) (by assumption) | exact keepO bo1 (by first | (simp; done) | (simp; omega)) (by assumption) | exact keepW bg2 (by first | (simp; done) | (simp; omega)) (by assumption) | exact keepW bg1 (by first | (simp; done) | (simp; omega)) (by assumption) | assumption))
            clear hK K hHeld
            have hHeld := hHeld2
            clear hHeld2
            try simp only [Act.put, List.setIfInBounds_toArray, List.set_cons_zero, List.set_cons_succ]
            refine wpAnyH_take (i := 9) (oi := ⟨some 3, _, _, _, _, _⟩) (v := _) rfl (by kernel_rfl) (by kernel_rfl) (by kernel_rfl) (fun _ _ _ h => h) (Or.inl ⟨by kernel_rfl, by intro w hSw; (try dsimp only at hSw); go_simp; try with_reducible rfl⟩) (by assumption) ?_
            simp only [Act.put, List.setIfInBounds_toArray, List.set_cons_zero, List.set_cons_succ]
            refine wpAnyH_take (i := 10) (oi := ⟨some 4, _, _, _, _, _⟩) (v := _) rfl (by kernel_rfl) (by kernel_rfl) (by kernel_rfl) (fun _ _ _ h => h) (Or.inl ⟨by kernel_rfl, by intro w hSw; (try dsimp only at hSw); go_simp; try with_reducible rfl⟩) (by assumption) ?_
            simp only [Act.put, List.setIfInBounds_toArray, List.set_cons_zero, List.set_cons_succ]
            refine wpAnyH_take (i := 11) (oi := ⟨some 5, _, _, _, _, _⟩) (v := _) rfl (by kernel_rfl) (by kernel_rfl) (by kernel_rfl) (fun _ _ _ h => h) (Or.inl ⟨by kernel_rfl, by intro w hSw; (try dsimp only at hSw); go_simp; try with_reducible rfl⟩) (by assumption) ?_
            simp only [Act.put, List.setIfInBounds_toArray, List.set_cons_zero, List.set_cons_succ]
            refine wpAnyH_done (by kernel_rfl) ?_ _
          rotate_left 1
        rotate_left 2
        focus
          go_simp
          refine hK.out _ _ ?_ (fun hHeld2 => ?_)
          · (first | (try dsimp only); go_keep | (go_split_ands; refine ⟨?_, ?_, ?_⟩ <;> first | exact keepB bx5 (by assumption) | exact keepB bx4 (by assumption) | exact keepB bx3 (by assumption) | exact keepB bx2 (by assumption) | exact keepB bx1 (by assumption) | exact keepO bo5 (by first | (simp; done) | (simp; omega)) (by assumption) | exact keepO bo4 (by first | (simp; done) | (simp; omega)) (by assumption) | exact keepO bo3 (by first | (simp; done) | (simp; omega)) (by assumption) | exact keepO bo2 (by first | (simp; done) | (simp; omega)) (by assumption) | exact keepO bo1 (by first | (simp; done) | (simp; omega)) (by assumption) | exact keepW bg2 (by first | (simp; done) | (simp; omega)) (by assumption) | exact keepW bg1 (by first | (simp; done) | (simp; omega)) (by assumption) | assumption))
          clear hK K hHeld
          have hHeld := hHeld2
          clear hHeld2
          try simp only [Act.put, List.setIfInBounds_toArray, List.set_cons_zero, List.set_cons_succ]
          refine wpAnyH_ready (rs := [3]) (by kernel_rfl) (by simp) ?_
          refine AllReadyH.cons (o := ⟨some 40, _, _, _, _, _⟩) rfl (fun K hK => ?_) AllReadyH.nil
          go_simp
          refine hK.out _ _ ?_ (fun hHeld2 => ?_)
          · (first | (try dsimp only); go_keep | (go_split_ands; refine ⟨?_, ?_, ?_⟩ <;> first | exact keepB bx5 (by assumption) | exact keepB bx4 (by assumption) | exact keepB bx3 (by assumption) | exact keepB bx2 (by assumption) | exact keepB bx1 (by assumption) | exact keepO bo5 (by first | (simp; done) | (simp; omega)) (by assumption) | exact keepO bo4 (by first | (simp; done) | (simp; omega)) (by assumption) | exact keepO bo3 (by first | (simp; done) | (simp; omega)) (by assumption) | exact keepO bo2 (by first | (simp; done) | (simp; omega)) (by assumption) | exact keepO bo1 (by first | (simp; done) | (simp; omega)) (by assumption) | exact keepW bg2 (by first | (simp; done) | (simp; omega)) (by assumption) | exact keepW bg1 (by first | (simp; done) | (simp; omega)) (by assumption) | assumption))
          clear hK K hHeld
          have hHeld := hHeld2
          clear hHeld2
          try simp only [Act.put, List.setIfInBounds_toArray, List.set_cons_zero, List.set_cons_succ]
          refine wpAnyH_ready (rs := [4]) (by kernel_rfl) (by simp) ?_
          refine AllReadyH.cons (o := ⟨some 41, _, _, _, _, _⟩) rfl (fun K hK => ?_) AllReadyH.nil
          go_simp
          go_at_call 92
          obtain ⟨wz, hwz⟩ : ∃ wz, wz = ((w6.alloc (.cells #[.int .i64 0, .int .i64 3, .int .i64 5, .int .i64 (-1), .int .i64 9] 3)).alloc (.cells #[.int .i64 0, .int .i64 1, .int .i64 2, .int .i64 (-1), .int .i64 9] 3)).drew := ⟨_, rfl⟩
          have oa : OwnI wz w6.heap.size 3 (.slice (some ⟨w6.heap.size, 0, none⟩) 5 5) [0, 3, 5, -1, 9] := by rw [hwz]; exact ((lit_own w6 3 [0, 3, 5, -1, 9] (by simp) (by unfold I64; simp)).alloc _).drew
          have ob : OwnI wz (w6.heap.size + 1) 3 (.slice (some ⟨w6.heap.size + 1, 0, none⟩) 5 5) [0, 1, 2, -1, 9] := by rw [hwz]; have h9 := (lit_own (w6.alloc (.cells #[.int .i64 0, .int .i64 3, .int .i64 5, .int .i64 (-1), .int .i64 9] 3)) 3 [0, 1, 2, -1, 9] (by simp) (by unfold I64; simp)).drew; simpa using h9
          have bz : Below w6.heap.size w6 wz := by rw [hwz]; exact (((Below.refl _ _).alloc (Nat.le_refl _) _).alloc (by simp) _).trans ((Qt.one _ 1).below _)
          have hzz : w6.heap.size + 2 ≤ wz.heap.size := by rw [hwz]; simp
          rw [← hwz]
          clear hwz
          have gz := grown_below bz (some G)
          replace c00 := keepW gz (by first | (simp; done) | (simp; omega)) c00; replace c01 := keepW gz (by first | (simp; done) | (simp; omega)) c01; replace c02 := keepW gz (by first | (simp; done) | (simp; omega)) c02; replace x0 := keepW gz (by first | (simp; done) | (simp; omega)) x0; replace x1 := keepW gz (by first | (simp; done) | (simp; omega)) x1; replace x2 := keepW gz (by first | (simp; done) | (simp; omega)) x2
          replace f00 := keepWF gz (by first | (simp; done) | (simp; omega)) f00; replace f01 := keepWF gz (by first | (simp; done) | (simp; omega)) f01; replace f02 := keepWF gz (by first | (simp; done) | (simp; omega)) f02
          refine (one_any G (k3 + 1) G _ _ rv _ [0, 1, 2, -1, 9] wz (hrT.below bz) ob.ints (.inr (by omega)) hkT (by simp) (by simp)).mono ?_
          rintro e wc ⟨y, rfl, hy, hrc, bo1⟩
          have hy1 : -1 ≤ y ∧ y ≤ 9 := by simp only [List.mem_cons, List.not_mem_nil, or_false] at hy; omega
          have gb1 := grown_only bo1
          have bg2 := grown_trans gz gb1
          have hzc := bg2.size
          have o3 := oa.kept (bo1.kept (.inr (by omega)))
          replace c00 := keepW gb1 (by first | (simp; done) | (simp; omega)) c00; replace c01 := keepW gb1 (by first | (simp; done) | (simp; omega)) c01; replace c02 := keepW gb1 (by first | (simp; done) | (simp; omega)) c02; replace x0 := keepW gb1 (by first | (simp; done) | (simp; omega)) x0; replace x1 := keepW gb1 (by first | (simp; done) | (simp; omega)) x1; replace x2 := keepW gb1 (by first | (simp; done) | (simp; omega)) x2
          replace f00 := keepWF gb1 (by first | (simp; done) | (simp; omega)) f00; replace f01 := keepWF gb1 (by first | (simp; done) | (simp; omega)) f01; replace f02 := keepWF gb1 (by first | (simp; done) | (simp; omega)) f02
          go_wp2_with fail
          refine hK.out _ _ ?_ (fun hHeld2 => ?_)
          · (first | (try dsimp only); go_keep | (go_split_ands; refine ⟨?_, ?_, ?_⟩ <;> first | exact keepB bx5 (by assumption) | exact keepB bx4 (by assumption) | exact keepB bx3 (by assumption) | exact keepB bx2 (by assumption) | exact keepB bx1 (by assumption) | exact keepO bo5 (by first | (simp; done) | (simp; omega)) (by assumption) | exact keepO bo4 (by first | (simp; done) | (simp; omega)) (by assumption) | exact keepO bo3 (by first | (simp; done) | (simp; omega)) (by assumption) | exact keepO bo2 (by first | (simp; done) | (simp; omega)) (by assumption) | exact keepO bo1 (by first | (simp; done) | (simp; omega)) (by assumption) | exact keepW bg2 (by first | (simp; done) | (simp; omega)) (by assumption) | exact keepW bg1 (by first | (simp; done) | (simp; omega)) (by assumption) | assumption))
          clear hK K hHeld
          have hHeld := hHeld2
          clear hHeld2
          try simp only [Act.put, List.setIfInBounds_toArray, List.set_cons_zero, List.set_cons_succ]
          refine wpAnyH_ready (rs := [7]) (by kernel_rfl) (by simp) ?_
          refine AllReadyH.cons (o := ⟨some 44, _, _, _, _, _⟩) rfl (fun K hK => ?_) AllReadyH.nil
          go_simp
          go_at_call 92
          refine (one_any G ((k3 + 1) + 1) G _ _ rv _ [0, 3, 5, -1, 9] wc hrc o3.ints (.inr (by omega)) (by omega) (by simp) (by simp)).mono ?_
          rintro e wd ⟨z, rfl, hz, hrd, bo2⟩
          have hz1 : -1 ≤ z ∧ z ≤ 9 := by simp only [List.mem_cons, List.not_mem_nil, or_false] at hz; omega
          have gb2 := grown_only bo2
          have bgd := grown_trans bg2 gb2
          replace c00 := keepW gb2 (by first | (simp; done) | (simp; omega)) c00; replace c01 := keepW gb2 (by first | (simp; done) | (simp; omega)) c01; replace c02 := keepW gb2 (by first | (simp; done) | (simp; omega)) c02; replace x0 := keepW gb2 (by first | (simp; done) | (simp; omega)) x0; replace x1 := keepW gb2 (by first | (simp; done) | (simp; omega)) x1; replace x2 := keepW gb2 (by first | (simp; done) | (simp; omega)) x2
          replace f00 := keepWF gb2 (by first | (simp; done) | (simp; omega)) f00; replace f01 := keepWF gb2 (by first | (simp; done) | (simp; omega)) f01; replace f02 := keepWF gb2 (by first | (simp; done) | (simp; omega)) f02
          go_wp2_with fail
          refine hK.out _ _ ?_ (fun hHeld2 => ?_)
          · (first | (try dsimp only); go_keep | (go_split_ands; refine ⟨?_, ?_, ?_⟩ <;> first | exact keepB bx5 (by assumption) | exact keepB bx4 (by assumption) | exact keepB bx3 (by assumption) | exact keepB bx2 (by assumption) | exact keepB bx1 (by assumption) | exact keepO bo5 (by first | (simp; done) | (simp; omega)) (by assumption) | exact keepO bo4 (by first | (simp; done) | (simp; omega)) (by assumption) | exact keepO bo3 (by first | (simp; done) | (simp; omega)) (by assumption) | exact keepO bo2 (by first | (simp; done) | (simp; omega)) (by assumption) | exact keepO bo1 (by first | (simp; done) | (simp; omega)) (by assumption) | exact keepW bg2 (by first | (simp; done) | (simp; omega)) (by assumption) | exact keepW bg1 (by first | (simp; done) | (simp; omega)) (by assumption) | assumption))
          clear hK K hHeld
          have hHeld := hHeld2
          clear hHeld2
          try simp only [Act.put, List.setIfInBounds_toArray, List.set_cons_zero, List.set_cons_succ]
          refine wpAnyH_ready (rs := [8]) (by kernel_rfl) (by simp) ?_
          refine AllReadyH.cons (o := ⟨none, _, _, _, _, _⟩) rfl (fun K hK => ?_) AllReadyH.nil
          go_simp
          refine hK.out _ _ ?_ (fun hHeld2 => ?_)
          · (first | (try dsimp only); go_keep | (go_split_ands; refine ⟨?_, ?_, ?_⟩ <;> first | exact keepB bx5 (by assumption) | exact keepB bx4 (by assumption) | exact keepB bx3 (by assumption) | exact keepB bx2 (by assumption) | exact keepB bx1 (by assumption) | exact keepO bo5 (by first | (simp; done) | (simp; omega)) (by assumption) | exact keepO bo4 (by first | (simp; done) | (simp; omega)) (by assumption) | exact keepO bo3 (by first | (simp; done) | (simp; omega)) (by assumption) | exact keepO bo2 (by first | (simp; done) | (simp; omega)) (by assumption) | exact keepO bo1 (by first | (simp; done) | (simp; omega)) (by assumption) | exact keepW bg2 (by first | (simp; done) | (simp; omega)) (by assumption) | exact keepW bg1 (by first | (simp; done) | (simp; omega)) (by assumption) | assumption))
          clear hK K hHeld
          have hHeld := hHeld2
          clear hHeld2
          try simp only [Act.put, List.setIfInBounds_toArray, List.set_cons_zero, List.set_cons_succ]
          refine wpAnyH_take (i := 9) (oi := ⟨some 3, _, _, _, _, _⟩) (v := _) rfl (by kernel_rfl) (by kernel_rfl) (by kernel_rfl) (fun _ _ _ h => h) (Or.inl ⟨by kernel_rfl, by intro w hSw; (try dsimp only at hSw); go_simp; try with_reducible rfl⟩) (by assumption) ?_
          simp only [Act.put, List.setIfInBounds_toArray, List.set_cons_zero, List.set_cons_succ]
          refine wpAnyH_take (i := 10) (oi := ⟨some 4, _, _, _, _, _⟩) (v := _) rfl (by kernel_rfl) (by kernel_rfl) (by kernel_rfl) (fun _ _ _ h => h) (Or.inl ⟨by kernel_rfl, by intro w hSw; (try dsimp only at hSw); go_simp; try with_reducible rfl⟩) (by assumption) ?_
          simp only [Act.put, List.setIfInBounds_toArray, List.set_cons_zero, List.set_cons_succ]
          refine wpAnyH_take (i := 11) (oi := ⟨some 5, _, _, _, _, _⟩) (v := _) rfl (by kernel_rfl) (by kernel_rfl) (by kernel_rfl) (fun _ _ _ h => h) (Or.inl ⟨by kernel_rfl, by intro w hSw; (try dsimp only at hSw); go_simp; try with_reducible rfl⟩) (by assumption) ?_
          simp only [Act.put, List.setIfInBounds_toArray, List.set_cons_zero, List.set_cons_succ]
          refine wpAnyH_done (by kernel_rfl) ?_ _
        rotate_left 1
        all_goals
          have hbc := hbT.trans (below_of_grown bgd (B := w.heap.size) (by omega) (by omega))
          go_wp2
          refine bodyPost_ret (v := .tuple #[.agg #[.int .i64 W, .int .i64 L, .slice A ds.length c], .slice A2 ps.length c2, .int .i64 y, .int .i64 z]) (by simp [results, Try.results54, go_sem, *]) rfl ⟨W, L, _, _, ds, ps, y, z, rfl, ?_, ?_, hy1, hz1, ((hbc.setCell (Nat.le_refl _) _).setCell (Nat.le_refl _) _).setCell (Nat.le_refl _) _⟩
          · exact ((((HoT.out.kept (Kept.of_grown bgd (Nat.le_refl _) (.inl (by omega)))).setBelow (by show w.heap.size < _; omega) _).setBelow (by show w.heap.size < _; omega) _).setBelow (by show w.heap.size < _; omega) _).base (by omega)
          · exact ((((HpT.out.kept (Kept.of_grown bgd (Nat.le_refl _) (.inl (by omega)))).setBelow (by show w.heap.size < _; omega) _).setBelow (by show w.heap.size < _; omega) _).setBelow (by show w.heap.size < _; omega) _).base (by omega)
end Go.Proofs.Ytodbgkflakfjpaa
