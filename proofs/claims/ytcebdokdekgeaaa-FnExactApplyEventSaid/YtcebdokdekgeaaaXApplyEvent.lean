/-
  Lemmas and contracts of single functions of this program, used by the proofs of its laws: what each call returns and what becomes of memory. Conditions: the hypotheses of each theorem.
-/
import Derived.Test.YtcebdokdekgeaaaMillU
import Derived.Test.YtcebdokdekgeaaaMarkE
import Derived.Test.YtcebdokdekgeaaaEvA
namespace Go.Proofs.Ytcebdokdekgeaaa
open Go.RowKit
attribute [local go_sem ↓] Go.wp_at_zero Go.wp_at_succ

theorem merge6 {F G : Nat → World → Option Addr → Nat → Option Addr → Nat → Prop} {Goal : Prop} (h1 : (∀ X w A c B d, F X w A c B d → G X w A c B d) → Goal) (h2 : ∀ X w A c B d, F X w A c B d → G X w A c B d) : Goal := h1 h2
theorem merge4 {F G : Nat → World → Option Addr → Nat → Prop} {Goal : Prop} (h1 : (∀ X w B d, F X w B d → G X w B d) → Goal) (h2 : ∀ X w B d, F X w B d → G X w B d) : Goal := h1 h2
theorem sApplyEvent_fix (lo hi : Nat) (v : Value) (m : Mil) (ev : Evt) (es5 : List Ent) (a5 b5 z5 : Int) (rs : Bool) (w : World) (h : ES w lo hi v m.es) (hhi : hi ≤ w.heap.size) (hin : I64 m.b ∧ I64 m.z) (h64 : V64 ev) (hM : (⟨es5, a5, b5, z5⟩ : Mil) = (apV m ev).getD Mil.nil) (hr : rs = (apV m ev).isSome) :
    Calls Try.prog 21 #[.agg #[v, .int .i64 m.a, .int .i64 m.b, .int .i64 m.z], .agg #[.int .i64 ev.k, .int .i64 ev.lb, .int .i64 ev.l, .int .i64 ev.r, .int .i64 ev.f, .int .i64 ev.t, .int .i64 ev.g]] w fun e w' => ∃ A c, e = .returned (.tuple #[.agg #[.slice A es5.length c, .int .i64 a5, .int .i64 b5, .int .i64 z5], .bool rs]) ∧ ES w' w.heap.size w'.heap.size (.slice A es5.length c) es5 ∧ Below w.heap.size w w' := by
  refine (sApplyEvent_any lo hi v m ev w h hhi hin h64).mono ?_
  rintro e w' ⟨u, rfl, he, hb⟩
  rw [← hM] at he ⊢
  rw [← hr]
  obtain ⟨A, c, rfl, _⟩ := he.form
  exact ⟨A, c, rfl, he, hb⟩
theorem ApplyEvent_fix (lo hi : Nat) (v : Value) (m : Mil) (ev : Evt) (es5 : List Ent) (a5 b5 z5 : Int) (rs : Bool) (w : World) (h : ES w lo hi v m.es) (hhi : hi ≤ w.heap.size) (hin : I64 m.a ∧ I64 m.b ∧ I64 m.z) (h64 : V64 ev) (hM : (⟨es5, a5, b5, z5⟩ : Mil) = (apV m ev).getD Mil.nil) (hr : rs = (apV m ev).isSome) :
    Calls Try.prog 20 #[.agg #[v, .int .i64 m.a, .int .i64 m.b, .int .i64 m.z], .agg #[.int .i64 ev.k, .int .i64 ev.lb, .int .i64 ev.l, .int .i64 ev.r, .int .i64 ev.f, .int .i64 ev.t, .int .i64 ev.g]] w fun e w' => ∃ A c, e = .returned (.tuple #[.agg #[.slice A es5.length c, .int .i64 a5, .int .i64 b5, .int .i64 z5], .bool rs]) ∧ OwnE w' w.heap.size w'.heap.size 35 82 38 (.slice A es5.length c) es5 ∧ Below w.heap.size w w' := by
  refine (ApplyEvent_any lo hi v m ev w h hhi hin h64).mono ?_
  rintro e w' ⟨u, rfl, he, hb⟩
  rw [← hM] at he ⊢
  rw [← hr]
  obtain ⟨A, c, rfl, _⟩ := he.form
  exact ⟨A, c, rfl, he, hb⟩
theorem apV_small {m : Mil} {e : Evt} : ((apV m e).getD Mil.nil).es.length ≤ 12 ∧ ∀ k, k < ((apV m e).getD Mil.nil).es.length → (ge ((apV m e).getD Mil.nil).es k).ds.length ≤ 1000 ∧ (ge ((apV m e).getD Mil.nil).es k).ps.length ≤ 1000 := by
  cases h : apV m e with
  | none => exact ⟨by simp [Mil.nil], fun k hk => absurd hk (by simp [Mil.nil])⟩
  | some m' =>
    unfold apV at h
    split at h
    · exact mill_sizes (apE_ok h)
    · cases h
theorem small_off {es : List Ent} (hl : es.length ≤ 12) (h : ∀ k, k < es.length → (ge es k).ds.length ≤ 1000 ∧ (ge es k).ps.length ≤ 1000) : offE es 1 es.length ≤ 1000000 := by
  have := offE_bound (es := es) (S := 9003) (fun k hk => by have := h k hk; unfold szE; omega) 1 es.length (Nat.le_refl _)
  have h2 : 9003 * es.length ≤ 9003 * 12 := Nat.mul_le_mul_left _ hl
  omega
set_option maxRecDepth 100000 in
set_option maxHeartbeats 16000000 in
theorem FnExactApplyEvent_walk (A : Option Addr) (n c : Nat) (es : List Ent) (a b z : Int) (ev : Evt) (w : World) (h0 : ES w 0 w.heap.size (.slice A n c) es) (hin : I64 a ∧ I64 b ∧ I64 z) (h64 : V64 ev) :
    Calls Try.prog 11 #[.agg #[.slice A n c, .int .i64 a, .int .i64 b, .int .i64 z], .agg #[.int .i64 ev.k, .int .i64 ev.lb, .int .i64 ev.l, .int .i64 ev.r, .int .i64 ev.f, .int .i64 ev.t, .int .i64 ev.g]] w fun e w' => e = .returned (.bool true) ∧ Below w.heap.size w w' := by
  obtain ⟨ek, lb, l, r, f, t, g⟩ := ev
  dsimp only
  obtain ⟨A', c', he, hc, hm⟩ := h0.form
  injection he with q1 q2 q3
  subst q1; subst q2; subst q3
  have hes : ∀ w1, Below w.heap.size w w1 → ES w1 0 w.heap.size (.slice A es.length c) es := fun w1 hb => h0.below hb (Nat.le_refl _)
  have H64 := Lib.hid h64
  obtain ⟨⟨es5, a5, b5, z5⟩, hM5⟩ : ∃ M, M = (apV ⟨es, a, b, z⟩ ⟨ek, lb, l, r, f, t, g⟩).getD Mil.nil := ⟨_, rfl⟩
  obtain ⟨rs, hrs⟩ : ∃ rs, rs = (apV ⟨es, a, b, z⟩ ⟨ek, lb, l, r, f, t, g⟩).isSome := ⟨_, rfl⟩
  have hsm := apV_small (m := ⟨es, a, b, z⟩) (e := ⟨ek, lb, l, r, f, t, g⟩)
  rw [← hM5] at hsm
  dsimp only at hsm
  have HSm := Lib.hid hsm
  have HM5 := Lib.hid hM5
  have Hrs := Lib.hid hrs
  clear h64 hM5 hrs hsm h0
  have Hs := Lib.hid (show ∃ y1, y1 = ((w.alloc (.cells #[.slice A es.length c, .int .i64 a, .int .i64 b, .int .i64 z] 60)).alloc (.cells #[.int .i64 ek, .int .i64 lb, .int .i64 l, .int .i64 r, .int .i64 f, .int .i64 t, .int .i64 g] 63)) ∧ Below w.heap.size w y1 ∧ y1.cell? ⟨w.heap.size, 0, none⟩ = some (.slice A es.length c) ∧ y1.cell? ⟨w.heap.size, 1, none⟩ = some (.int .i64 a) ∧ y1.cell? ⟨w.heap.size, 2, none⟩ = some (.int .i64 b) ∧ y1.cell? ⟨w.heap.size, 3, none⟩ = some (.int .i64 z) ∧ y1.cell? ⟨w.heap.size + 1, 0, none⟩ = some (.int .i64 ek) ∧ y1.cell? ⟨w.heap.size + 1, 1, none⟩ = some (.int .i64 lb) ∧ y1.cell? ⟨w.heap.size + 1, 2, none⟩ = some (.int .i64 l) ∧ y1.cell? ⟨w.heap.size + 1, 3, none⟩ = some (.int .i64 r) ∧ y1.cell? ⟨w.heap.size + 1, 4, none⟩ = some (.int .i64 f) ∧ y1.cell? ⟨w.heap.size + 1, 5, none⟩ = some (.int .i64 t) ∧ y1.cell? ⟨w.heap.size + 1, 6, none⟩ = some (.int .i64 g) ∧ w.heap.size + 1 < y1.heap.size from by
    have hb : Below w.heap.size w ((w.alloc (.cells #[.slice A es.length c, .int .i64 a, .int .i64 b, .int .i64 z] 60)).alloc (.cells #[.int .i64 ek, .int .i64 lb, .int .i64 l, .int .i64 r, .int .i64 f, .int .i64 t, .int .i64 g] 63)) := ((Below.refl _ _).alloc (Nat.le_refl _) _).alloc (by simp) _
    exact ⟨_, rfl, hb, by go_simp, by go_simp, by go_simp, by go_simp, by go_simp, by go_simp, by go_simp, by go_simp, by go_simp, by go_simp, by go_simp, by simp⟩)
  go_enter Try.func11, Try.ntmps11
  go_wp2_with fail
  obtain ⟨y1, hw1, hb0, c00, c01, c02, c03, c10, c11, c12, c13, c14, c15, c16, hz⟩ := Hs.out
  rw [← hw1]
  clear hw1 Hs
  rename Below w.heap.size w y1 => By1
  refine (szMillT_any 0 w.heap.size _ es a b z y1 (hes y1 By1) (by omega)).mono ?_
  rintro e y2 ⟨rr, rfl, hr, bx⟩
  have s2 := bx.size
  have By2 := By1.trans (bx.mono (by omega))
  replace c00 := keepB bx c00; replace c01 := keepB bx c01; replace c02 := keepB bx c02; replace c03 := keepB bx c03; replace c10 := keepB bx c10; replace c11 := keepB bx c11; replace c12 := keepB bx c12; replace c13 := keepB bx c13; replace c14 := keepB bx c14; replace c15 := keepB bx c15; replace c16 := keepB bx c16
  clear bx
  rcases hr with rfl | ⟨r0, r1, hsT⟩
  · go_wp2
    go_ret
    exact ⟨rfl, By2⟩
  have hnn : ¬ rr < 0 := by omega
  have hpt := SzT.parts hsT
  have hl := hpt.1
  have HSz := Lib.hid hpt.2.1
  have HOff := Lib.hid hpt.2.2
  have hsy2 : w.heap.size ≤ y2.heap.size := By2.size
  clear hsT hpt
  go_wp2_with fail
  refine' merge6 (F := fun X w' Ax cx A3 c3 => Below y2.heap.size y2 w' ∧ MB w' X (.slice A3 es5.length c3) a5 b5 z5 ∧ ES w' y2.heap.size w'.heap.size (.slice A3 es5.length c3) es5) (fun hk => ?_) (fun X6 y3 Ax cx A3 c3 hF => ?_)
  rotate_left 1
  ·
    refine wp_region_held_drew (S := fun w' => w'.cell? ⟨w.heap.size, 0, none⟩ = some (.slice A es.length c) ∧ w'.cell? ⟨w.heap.size, 1, none⟩ = some (.int .i64 a) ∧ w'.cell? ⟨w.heap.size, 2, none⟩ = some (.int .i64 b) ∧ w'.cell? ⟨w.heap.size, 3, none⟩ = some (.int .i64 z) ∧ w'.cell? ⟨w.heap.size + 1, 0, none⟩ = some (.int .i64 ek) ∧ w'.cell? ⟨w.heap.size + 1, 1, none⟩ = some (.int .i64 lb) ∧ w'.cell? ⟨w.heap.size + 1, 2, none⟩ = some (.int .i64 l) ∧ w'.cell? ⟨w.heap.size + 1, 3, none⟩ = some (.int .i64 r) ∧ w'.cell? ⟨w.heap.size + 1, 4, none⟩ = some (.int .i64 f) ∧ w'.cell? ⟨w.heap.size + 1, 5, none⟩ = some (.int .i64 t) ∧ w'.cell? ⟨w.heap.size + 1, 6, none⟩ = some (.int .i64 g)) (by kernel_rfl) ?_ (fun hHeld => ?_)
    · (first | (try dsimp only); go_keep | (go_split_ands; refine ⟨?_, ?_, ?_, ?_, ?_, ?_, ?_, ?_, ?_, ?_, ?_⟩ <;> first | exact keepB bx5 (by assumption) | exact keepB bx4 (by assumption) | exact keepB bx3 (by assumption) | exact keepB bx2 (by assumption) | exact keepB bx1 (by assumption) | exact keepO bo5 (by first | (simp; done) | (simp; omega)) (by assumption) | exact keepO bo4 (by first | (simp; done) | (simp; omega)) (by assumption) | exact keepO bo3 (by first | (simp; done) | (simp; omega)) (by assumption) | exact keepO bo2 (by first | (simp; done) | (simp; omega)) (by assumption) | exact keepO bo1 (by first | (simp; done) | (simp; omega)) (by assumption) | exact keepW bg2 (by first | (simp; done) | (simp; omega)) (by assumption) | exact keepW bg1 (by first | (simp; done) | (simp; omega)) (by assumption) | assumption))
    refine wpAnyH_take (i := 0) (oi := ⟨some 22, _, _, _, _, _⟩) (v := _) rfl (by kernel_rfl) (by kernel_rfl) (by kernel_rfl) (fun _ _ _ h => h) (Or.inl ⟨by kernel_rfl, by intro w hSw; (try dsimp only at hSw); go_simp; try with_reducible rfl⟩) (by assumption) ?_
    simp only [Act.put, List.setIfInBounds_toArray, List.set_cons_zero, List.set_cons_succ]
    refine wpAnyH_take (i := 2) (oi := ⟨some 24, _, _, _, _, _⟩) (v := _) rfl (by kernel_rfl) (by kernel_rfl) (by kernel_rfl) (fun _ _ _ h => h) (Or.inl ⟨by kernel_rfl, by intro w hSw; (try dsimp only at hSw); go_simp; try with_reducible rfl⟩) (by assumption) ?_
    simp only [Act.put, List.setIfInBounds_toArray, List.set_cons_zero, List.set_cons_succ]
    refine wpAnyH_ready (rs := [1, 8]) (by kernel_rfl) (by simp) (AllReadyH.cons (o := ⟨some 23, _, _, _, _, _⟩) rfl (fun K hK => ?_) (AllReadyH.cons (o := ⟨some 6, _, _, _, _, _⟩) rfl (fun K hK => ?_) (AllReadyH.nil)))
    focus
      go_simp
      go_at_call 35
      obtain ⟨wq, hwq⟩ : ∃ wq, wq = y2.drew := ⟨_, rfl⟩
      have bq : Below y2.heap.size y2 wq := by rw [hwq]; exact (Qt.one _ 1).below _
      have hsq := bq.size
      rw [← hwq]
      clear hwq
      replace c00 := keepB bq c00; replace c01 := keepB bq c01; replace c02 := keepB bq c02; replace c03 := keepB bq c03; replace c10 := keepB bq c10; replace c11 := keepB bq c11; replace c12 := keepB bq c12; replace c13 := keepB bq c13; replace c14 := keepB bq c14; replace c15 := keepB bq c15; replace c16 := keepB bq c16
      have hb_ := bq
      refine (toMill_any 0 w.heap.size _ es a b z wq (hes wq (By2.trans (hb_.mono hsy2))) (by have := hb_.size; omega) hl HSz.out).mono ?_
      rintro e x1 ⟨vx, rfl, ox, bx_⟩
      obtain ⟨Ax, cx, rfl, _⟩ := ox.form
      replace c00 := keepB bx_ c00; replace c01 := keepB bx_ c01; replace c02 := keepB bx_ c02; replace c03 := keepB bx_ c03; replace c10 := keepB bx_ c10; replace c11 := keepB bx_ c11; replace c12 := keepB bx_ c12; replace c13 := keepB bx_ c13; replace c14 := keepB bx_ c14; replace c15 := keepB bx_ c15; replace c16 := keepB bx_ c16
      have hs_ := bx_.size
      have hb9 := hb_.trans (bx_.mono hb_.size)
      clear hb_
      have hb_ := hb9
      clear hb9
      clear bx_
      go_wp2_with fail
      refine hK.out _ _ ?_ (fun hHeld2 => ?_)
      · (first | (try dsimp only); go_keep | (go_split_ands; refine ⟨?_, ?_, ?_, ?_, ?_, ?_, ?_, ?_, ?_, ?_, ?_⟩ <;> first | exact keepB bx5 (by assumption) | exact keepB bx4 (by assumption) | exact keepB bx3 (by assumption) | exact keepB bx2 (by assumption) | exact keepB bx1 (by assumption) | exact keepO bo5 (by first | (simp; done) | (simp; omega)) (by assumption) | exact keepO bo4 (by first | (simp; done) | (simp; omega)) (by assumption) | exact keepO bo3 (by first | (simp; done) | (simp; omega)) (by assumption) | exact keepO bo2 (by first | (simp; done) | (simp; omega)) (by assumption) | exact keepO bo1 (by first | (simp; done) | (simp; omega)) (by assumption) | exact keepW bg2 (by first | (simp; done) | (simp; omega)) (by assumption) | exact keepW bg1 (by first | (simp; done) | (simp; omega)) (by assumption) | assumption))
      clear hK K hHeld
      have hHeld := hHeld2
      clear hHeld2
      try simp only [Act.put, List.setIfInBounds_toArray, List.set_cons_zero, List.set_cons_succ]
      refine wpAnyH_ready (rs := [3, 8]) (by kernel_rfl) (by simp) (AllReadyH.cons (o := ⟨some 25, _, _, _, _, _⟩) rfl (fun K hK => ?_) (AllReadyH.cons (o := ⟨some 6, _, _, _, _, _⟩) rfl (fun K hK => ?_) (AllReadyH.nil)))
      focus
        go_simp
        go_at_call 36
        
        refine (toEvent_any ek lb l r f t g x1).mono ?_
        rintro e x2 ⟨rfl, bx_⟩
        replace c00 := keepB bx_ c00; replace c01 := keepB bx_ c01; replace c02 := keepB bx_ c02; replace c03 := keepB bx_ c03; replace c10 := keepB bx_ c10; replace c11 := keepB bx_ c11; replace c12 := keepB bx_ c12; replace c13 := keepB bx_ c13; replace c14 := keepB bx_ c14; replace c15 := keepB bx_ c15; replace c16 := keepB bx_ c16
        have hs_ := bx_.size
        have hb9 := hb_.trans (bx_.mono hb_.size)
        clear hb_
        have hb_ := hb9
        clear hb9
        have ox9 := ox.below bx_ (by first | exact Nat.le_refl _ | omega)
        clear ox
        have ox := ox9
        clear ox9
        clear bx_
        go_wp2_with fail
        refine hK.out _ _ ?_ (fun hHeld2 => ?_)
        · (first | (try dsimp only); go_keep | (go_split_ands; refine ⟨?_, ?_, ?_, ?_, ?_, ?_, ?_, ?_, ?_, ?_, ?_⟩ <;> first | exact keepB bx5 (by assumption) | exact keepB bx4 (by assumption) | exact keepB bx3 (by assumption) | exact keepB bx2 (by assumption) | exact keepB bx1 (by assumption) | exact keepO bo5 (by first | (simp; done) | (simp; omega)) (by assumption) | exact keepO bo4 (by first | (simp; done) | (simp; omega)) (by assumption) | exact keepO bo3 (by first | (simp; done) | (simp; omega)) (by assumption) | exact keepO bo2 (by first | (simp; done) | (simp; omega)) (by assumption) | exact keepO bo1 (by first | (simp; done) | (simp; omega)) (by assumption) | exact keepW bg2 (by first | (simp; done) | (simp; omega)) (by assumption) | exact keepW bg1 (by first | (simp; done) | (simp; omega)) (by assumption) | assumption))
        clear hK K hHeld
        have hHeld := hHeld2
        clear hHeld2
        try simp only [Act.put, List.setIfInBounds_toArray, List.set_cons_zero, List.set_cons_succ]
        refine wpAnyH_ready (rs := [4, 8]) (by kernel_rfl) (by simp) (AllReadyH.cons (o := ⟨some 26, _, _, _, _, _⟩) rfl (fun K hK => ?_) (AllReadyH.cons (o := ⟨some 6, _, _, _, _, _⟩) rfl (fun K hK => ?_) (AllReadyH.nil)))
        focus
          go_simp
          go_at_call 21
          
          refine (sApplyEvent_fix _ _ _ ⟨es, a, b, z⟩ ⟨ek, lb, l, r, f, t, g⟩ es5 a5 b5 z5 rs x2 ox.es (by omega) hin.2 H64.out HM5.out Hrs.out).mono ?_
          rintro e x3 ⟨A3, c3, rfl, o3, bx_⟩
          replace c00 := keepB bx_ c00; replace c01 := keepB bx_ c01; replace c02 := keepB bx_ c02; replace c03 := keepB bx_ c03; replace c10 := keepB bx_ c10; replace c11 := keepB bx_ c11; replace c12 := keepB bx_ c12; replace c13 := keepB bx_ c13; replace c14 := keepB bx_ c14; replace c15 := keepB bx_ c15; replace c16 := keepB bx_ c16
          have hs_ := bx_.size
          have hb9 := hb_.trans (bx_.mono hb_.size)
          clear hb_
          have hb_ := hb9
          clear hb9
          have ox9 := ox.below bx_ (by first | exact Nat.le_refl _ | omega)
          clear ox
          have ox := ox9
          clear ox9
          clear bx_
          go_wp2_with fail
          refine hK.out _ _ ?_ (fun hHeld2 => ?_)
          · (first | (try dsimp only); go_keep | (go_split_ands; refine ⟨?_, ?_, ?_, ?_, ?_, ?_, ?_, ?_, ?_, ?_, ?_⟩ <;> first | exact keepB bx5 (by assumption) | exact keepB bx4 (by assumption) | exact keepB bx3 (by assumption) | exact keepB bx2 (by assumption) | exact keepB bx1 (by assumption) | exact keepO bo5 (by first | (simp; done) | (simp; omega)) (by assumption) | exact keepO bo4 (by first | (simp; done) | (simp; omega)) (by assumption) | exact keepO bo3 (by first | (simp; done) | (simp; omega)) (by assumption) | exact keepO bo2 (by first | (simp; done) | (simp; omega)) (by assumption) | exact keepO bo1 (by first | (simp; done) | (simp; omega)) (by assumption) | exact keepW bg2 (by first | (simp; done) | (simp; omega)) (by assumption) | exact keepW bg1 (by first | (simp; done) | (simp; omega)) (by assumption) | assumption))
          clear hK K hHeld
          have hHeld := hHeld2
          clear hHeld2
          try simp only [Act.put, List.setIfInBounds_toArray, List.set_cons_zero, List.set_cons_succ]
          refine wpAnyH_take (i := 5) (oi := ⟨some 21, _, _, _, _, _⟩) (v := _) rfl (by kernel_rfl) (by kernel_rfl) (by kernel_rfl) (fun _ _ _ h => h) (Or.inl ⟨by kernel_rfl, by intro w hSw; (try dsimp only at hSw); go_simp; try with_reducible rfl⟩) (by assumption) ?_
          simp only [Act.put, List.setIfInBounds_toArray, List.set_cons_zero, List.set_cons_succ]
          refine wpAnyH_take (i := 6) (oi := ⟨some 27, _, _, _, _, _⟩) (v := _) rfl (by kernel_rfl) (by kernel_rfl) (by kernel_rfl) (fun _ _ _ h => h) (Or.inl ⟨by kernel_rfl, by intro w hSw; (try dsimp only at hSw); go_simp; try with_reducible rfl⟩) (by assumption) ?_
          simp only [Act.put, List.setIfInBounds_toArray, List.set_cons_zero, List.set_cons_succ]
          refine wpAnyH_take (i := 7) (oi := ⟨some 28, _, _, _, _, _⟩) (v := _) rfl (by kernel_rfl) (by kernel_rfl) (by kernel_rfl) (fun _ _ _ h => h) (Or.inl ⟨by kernel_rfl, by intro w hSw; (try dsimp only at hSw); go_simp; try with_reducible rfl⟩) (by assumption) ?_
          simp only [Act.put, List.setIfInBounds_toArray, List.set_cons_zero, List.set_cons_succ]
          refine wpAnyH_ready (rs := [8]) (by kernel_rfl) (by simp) ?_
          refine AllReadyH.cons (o := ⟨some 6, _, _, _, _, _⟩) rfl (fun K hK => ?_) AllReadyH.nil
          go_simp
          refine hK.out _ _ ?_ (fun hHeld2 => ?_)
          · (first | (try dsimp only); go_keep | (go_split_ands; refine ⟨?_, ?_, ?_, ?_, ?_, ?_, ?_, ?_, ?_, ?_, ?_⟩ <;> first | exact keepB bx5 (by assumption) | exact keepB bx4 (by assumption) | exact keepB bx3 (by assumption) | exact keepB bx2 (by assumption) | exact keepB bx1 (by assumption) | exact keepO bo5 (by first | (simp; done) | (simp; omega)) (by assumption) | exact keepO bo4 (by first | (simp; done) | (simp; omega)) (by assumption) | exact keepO bo3 (by first | (simp; done) | (simp; omega)) (by assumption) | exact keepO bo2 (by first | (simp; done) | (simp; omega)) (by assumption) | exact keepO bo1 (by first | (simp; done) | (simp; omega)) (by assumption) | exact keepW bg2 (by first | (simp; done) | (simp; omega)) (by assumption) | exact keepW bg1 (by first | (simp; done) | (simp; omega)) (by assumption) | assumption))
          clear hK K hHeld
          have hHeld := hHeld2
          clear hHeld2
          try simp only [Act.put, List.setIfInBounds_toArray, List.set_cons_zero, List.set_cons_succ]
          refine wpAnyH_ready (rs := [9]) (by kernel_rfl) (by simp) ?_
          refine AllReadyH.cons (o := ⟨none, _, _, _, _, _⟩) rfl (fun K hK => ?_) AllReadyH.nil
          go_simp
          refine hK.out _ _ ?_ (fun hHeld2 => ?_)
          · (first | (try dsimp only); go_keep | (go_split_ands; refine ⟨?_, ?_, ?_, ?_, ?_, ?_, ?_, ?_, ?_, ?_, ?_⟩ <;> first | exact keepB bx5 (by assumption) | exact keepB bx4 (by assumption) | exact keepB bx3 (by assumption) | exact keepB bx2 (by assumption) | exact keepB bx1 (by assumption) | exact keepO bo5 (by first | (simp; done) | (simp; omega)) (by assumption) | exact keepO bo4 (by first | (simp; done) | (simp; omega)) (by assumption) | exact keepO bo3 (by first | (simp; done) | (simp; omega)) (by assumption) | exact keepO bo2 (by first | (simp; done) | (simp; omega)) (by assumption) | exact keepO bo1 (by first | (simp; done) | (simp; omega)) (by assumption) | exact keepW bg2 (by first | (simp; done) | (simp; omega)) (by assumption) | exact keepW bg1 (by first | (simp; done) | (simp; omega)) (by assumption) | assumption))
          clear hK K hHeld
          have hHeld := hHeld2
          clear hHeld2
          try simp only [Act.put, List.setIfInBounds_toArray, List.set_cons_zero, List.set_cons_succ]
          refine wpAnyH_take (i := 10) (oi := ⟨some 7, _, _, _, _, _⟩) (v := _) rfl (by kernel_rfl) (by kernel_rfl) (by kernel_rfl) (fun _ _ _ h => h) (Or.inl ⟨by kernel_rfl, by intro w hSw; (try dsimp only at hSw); go_simp; try with_reducible rfl⟩) (by assumption) ?_
          simp only [Act.put, List.setIfInBounds_toArray, List.set_cons_zero, List.set_cons_succ]
          refine wpAnyH_done (by kernel_rfl) ?_ _
        rotate_left 1
        focus
          go_simp
          refine hK.out _ _ ?_ (fun hHeld2 => ?_)
          · (first | (try dsimp only); go_keep | (go_split_ands; refine ⟨?_, ?_, ?_, ?_, ?_, ?_, ?_, ?_, ?_, ?_, ?_⟩ <;> first | exact keepB bx5 (by assumption) | exact keepB bx4 (by assumption) | exact keepB bx3 (by assumption) | exact keepB bx2 (by assumption) | exact keepB bx1 (by assumption) | exact keepO bo5 (by first | (simp; done) | (simp; omega)) (by assumption) | exact keepO bo4 (by first | (simp; done) | (simp; omega)) (by assumption) | exact keepO bo3 (by first | (simp; done) | (simp; omega)) (by assumption) | exact keepO bo2 (by first | (simp; done) | (simp; omega)) (by assumption) | exact keepO bo1 (by first | (simp; done) | (simp; omega)) (by assumption) | exact keepW bg2 (by first | (simp; done) | (simp; omega)) (by assumption) | exact keepW bg1 (by first | (simp; done) | (simp; omega)) (by assumption) | assumption))
          clear hK K hHeld
          have hHeld := hHeld2
          clear hHeld2
          try simp only [Act.put, List.setIfInBounds_toArray, List.set_cons_zero, List.set_cons_succ]
          refine wpAnyH_ready (rs := [4]) (by kernel_rfl) (by simp) ?_
          refine AllReadyH.cons (o := ⟨some 26, _, _, _, _, _⟩) rfl (fun K hK => ?_) AllReadyH.nil
          go_simp
          go_at_call 21
          obtain ⟨wq2, hwq⟩ : ∃ wq2, wq2 = x2.alloc (.cells #[.slice none 0 0, .int .i64 0, .int .i64 0, .int .i64 0] 25) := ⟨_, rfl⟩
          have bq : Below x2.heap.size x2 wq2 := by rw [hwq]; exact (Below.refl _ _).alloc (Nat.le_refl _) _
          have hqb : MB wq2 x2.heap.size (.slice none 0 0) 0 0 0 := by rw [hwq]; exact heap_alloc_new x2 _
          have hqa : x2.heap.size < wq2.heap.size := hqb.lt
          have hsy9 := hb_.size
          have hne1 : ¬ x2.heap.size = w.heap.size := by omega
          have hne2 : ¬ x2.heap.size = w.heap.size + 1 := by omega
          obtain ⟨⟨d0, d1, d2, d3⟩, ⟨fd0, fd1, fd2, fd3⟩⟩ := hqb.cells
          rw [← hwq]
          clear hwq
          replace c00 := keepB bq c00; replace c01 := keepB bq c01; replace c02 := keepB bq c02; replace c03 := keepB bq c03; replace c10 := keepB bq c10; replace c11 := keepB bq c11; replace c12 := keepB bq c12; replace c13 := keepB bq c13; replace c14 := keepB bq c14; replace c15 := keepB bq c15; replace c16 := keepB bq c16
          have hb9 := hb_.trans (bq.mono hb_.size)
          clear hb_
          have hb_ := hb9
          clear hb9
          have ox9 := ox.below bq (by first | exact Nat.le_refl _ | omega)
          clear ox
          have ox := ox9
          clear ox9
          refine (sApplyEvent_fix _ _ _ ⟨es, a, b, z⟩ ⟨ek, lb, l, r, f, t, g⟩ es5 a5 b5 z5 rs wq2 ox.es (by omega) hin.2 H64.out HM5.out Hrs.out).mono ?_
          rintro e x3 ⟨A3, c3, rfl, o3, bx_⟩
          replace c00 := keepB bx_ c00; replace c01 := keepB bx_ c01; replace c02 := keepB bx_ c02; replace c03 := keepB bx_ c03; replace c10 := keepB bx_ c10; replace c11 := keepB bx_ c11; replace c12 := keepB bx_ c12; replace c13 := keepB bx_ c13; replace c14 := keepB bx_ c14; replace c15 := keepB bx_ c15; replace c16 := keepB bx_ c16
          replace d0 := keepB bx_ d0; replace d1 := keepB bx_ d1; replace d2 := keepB bx_ d2; replace d3 := keepB bx_ d3
          replace fd0 := keepF bx_ (by first | (simp; done) | (simp; omega)) fd0; replace fd1 := keepF bx_ (by first | (simp; done) | (simp; omega)) fd1; replace fd2 := keepF bx_ (by first | (simp; done) | (simp; omega)) fd2; replace fd3 := keepF bx_ (by first | (simp; done) | (simp; omega)) fd3
          have hqb9 := hqb.below bx_ (by omega)
          clear hqb
          have hqb := hqb9
          clear hqb9
          have hs_ := bx_.size
          have hb9 := hb_.trans (bx_.mono hb_.size)
          clear hb_
          have hb_ := hb9
          clear hb9
          have ox9 := ox.below bx_ (by first | exact Nat.le_refl _ | omega)
          clear ox
          have ox := ox9
          clear ox9
          clear bx_
          go_wp2_with fail
          refine hK.out _ _ ?_ (fun hHeld2 => ?_)
          · (first | (try dsimp only); go_keep | (go_split_ands; refine ⟨?_, ?_, ?_, ?_, ?_, ?_, ?_, ?_, ?_, ?_, ?_⟩ <;> first | exact keepB bx5 (by assumption) | exact keepB bx4 (by assumption) | exact keepB bx3 (by assumption) | exact keepB bx2 (by assumption) | exact keepB bx1 (by assumption) | exact keepO bo5 (by first | (simp; done) | (simp; omega)) (by assumption) | exact keepO bo4 (by first | (simp; done) | (simp; omega)) (by assumption) | exact keepO bo3 (by first | (simp; done) | (simp; omega)) (by assumption) | exact keepO bo2 (by first | (simp; done) | (simp; omega)) (by assumption) | exact keepO bo1 (by first | (simp; done) | (simp; omega)) (by assumption) | exact keepW bg2 (by first | (simp; done) | (simp; omega)) (by assumption) | exact keepW bg1 (by first | (simp; done) | (simp; omega)) (by assumption) | assumption))
          clear hK K hHeld
          have hHeld := hHeld2
          clear hHeld2
          try simp only [Act.put, List.setIfInBounds_toArray, List.set_cons_zero, List.set_cons_succ]
          refine wpAnyH_take (i := 5) (oi := ⟨some 21, _, _, _, _, _⟩) (v := _) rfl (by kernel_rfl) (by kernel_rfl) (by kernel_rfl) (fun _ _ _ h => h) (Or.inl ⟨by kernel_rfl, by intro w hSw; (try dsimp only at hSw); go_simp; try with_reducible rfl⟩) (by assumption) ?_
          simp only [Act.put, List.setIfInBounds_toArray, List.set_cons_zero, List.set_cons_succ]
          refine wpAnyH_take (i := 6) (oi := ⟨some 27, _, _, _, _, _⟩) (v := _) rfl (by kernel_rfl) (by kernel_rfl) (by kernel_rfl) (fun _ _ _ h => h) (Or.inl ⟨by kernel_rfl, by intro w hSw; (try dsimp only at hSw); go_simp; try with_reducible rfl⟩) (by assumption) ?_
          simp only [Act.put, List.setIfInBounds_toArray, List.set_cons_zero, List.set_cons_succ]
          refine wpAnyH_take (i := 7) (oi := ⟨some 28, _, _, _, _, _⟩) (v := _) rfl (by kernel_rfl) (by kernel_rfl) (by kernel_rfl) (fun _ _ _ h => h) (Or.inl ⟨by kernel_rfl, by intro w hSw; (try dsimp only at hSw); go_simp; try with_reducible rfl⟩) (by assumption) ?_
          simp only [Act.put, List.setIfInBounds_toArray, List.set_cons_zero, List.set_cons_succ]
          refine wpAnyH_ready (rs := [9]) (by kernel_rfl) (by simp) ?_
          refine AllReadyH.cons (o := ⟨none, _, _, _, _, _⟩) rfl (fun K hK => ?_) AllReadyH.nil
          go_simp
          refine hK.out _ _ ?_ (fun hHeld2 => ?_)
          · (first | (try dsimp only); go_keep | (go_split_ands; refine ⟨?_, ?_, ?_, ?_, ?_, ?_, ?_, ?_, ?_, ?_, ?_⟩ <;> first | exact keepB bx5 (by assumption) | exact keepB bx4 (by assumption) | exact keepB bx3 (by assumption) | exact keepB bx2 (by assumption) | exact keepB bx1 (by assumption) | exact keepO bo5 (by first | (simp; done) | (simp; omega)) (by assumption) | exact keepO bo4 (by first | (simp; done) | (simp; omega)) (by assumption) | exact keepO bo3 (by first | (simp; done) | (simp; omega)) (by assumption) | exact keepO bo2 (by first | (simp; done) | (simp; omega)) (by assumption) | exact keepO bo1 (by first | (simp; done) | (simp; omega)) (by assumption) | exact keepW bg2 (by first | (simp; done) | (simp; omega)) (by assumption) | exact keepW bg1 (by first | (simp; done) | (simp; omega)) (by assumption) | assumption))
          clear hK K hHeld
          have hHeld := hHeld2
          clear hHeld2
          try simp only [Act.put, List.setIfInBounds_toArray, List.set_cons_zero, List.set_cons_succ]
          refine wpAnyH_take (i := 10) (oi := ⟨some 7, _, _, _, _, _⟩) (v := _) rfl (by kernel_rfl) (by kernel_rfl) (by kernel_rfl) (fun _ _ _ h => h) (Or.inl ⟨by kernel_rfl, by intro w hSw; (try dsimp only at hSw); go_simp; try with_reducible rfl⟩) (by assumption) ?_
          simp only [Act.put, List.setIfInBounds_toArray, List.set_cons_zero, List.set_cons_succ]
          refine wpAnyH_done (by kernel_rfl) ?_ _
        rotate_left 1
      rotate_left 2
      focus
        go_simp
        refine hK.out _ _ ?_ (fun hHeld2 => ?_)
        · (first | (try dsimp only); go_keep | (go_split_ands; refine ⟨?_, ?_, ?_, ?_, ?_, ?_, ?_, ?_, ?_, ?_, ?_⟩ <;> first | exact keepB bx5 (by assumption) | exact keepB bx4 (by assumption) | exact keepB bx3 (by assumption) | exact keepB bx2 (by assumption) | exact keepB bx1 (by assumption) | exact keepO bo5 (by first | (simp; done) | (simp; omega)) (by assumption) | exact keepO bo4 (by first | (simp; done) | (simp; omega)) (by assumption) | exact keepO bo3 (by first | (simp; done) | (simp; omega)) (by assumption) | exact keepO bo2 (by first | (simp; done) | (simp; omega)) (by assumption) | exact keepO bo1 (by first | (simp; done) | (simp; omega)) (by assumption) | exact keepW bg2 (by first | (simp; done) | (simp; omega)) (by assumption) | exact keepW bg1 (by first | (simp; done) | (simp; omega)) (by assumption) | assumption))
        clear hK K hHeld
        have hHeld := hHeld2
        clear hHeld2
        try simp only [Act.put, List.setIfInBounds_toArray, List.set_cons_zero, List.set_cons_succ]
        refine wpAnyH_ready (rs := [3]) (by kernel_rfl) (by simp) ?_
        refine AllReadyH.cons (o := ⟨some 25, _, _, _, _, _⟩) rfl (fun K hK => ?_) AllReadyH.nil
        go_simp
        go_at_call 36
        obtain ⟨wq2, hwq⟩ : ∃ wq2, wq2 = x1.alloc (.cells #[.slice none 0 0, .int .i64 0, .int .i64 0, .int .i64 0] 25) := ⟨_, rfl⟩
        have bq : Below x1.heap.size x1 wq2 := by rw [hwq]; exact (Below.refl _ _).alloc (Nat.le_refl _) _
        have hqb : MB wq2 x1.heap.size (.slice none 0 0) 0 0 0 := by rw [hwq]; exact heap_alloc_new x1 _
        have hqa : x1.heap.size < wq2.heap.size := hqb.lt
        have hsy9 := hb_.size
        have hne1 : ¬ x1.heap.size = w.heap.size := by omega
        have hne2 : ¬ x1.heap.size = w.heap.size + 1 := by omega
        obtain ⟨⟨d0, d1, d2, d3⟩, ⟨fd0, fd1, fd2, fd3⟩⟩ := hqb.cells
        rw [← hwq]
        clear hwq
        replace c00 := keepB bq c00; replace c01 := keepB bq c01; replace c02 := keepB bq c02; replace c03 := keepB bq c03; replace c10 := keepB bq c10; replace c11 := keepB bq c11; replace c12 := keepB bq c12; replace c13 := keepB bq c13; replace c14 := keepB bq c14; replace c15 := keepB bq c15; replace c16 := keepB bq c16
        have hb9 := hb_.trans (bq.mono hb_.size)
        clear hb_
        have hb_ := hb9
        clear hb9
        have ox9 := ox.below bq (by first | exact Nat.le_refl _ | omega)
        clear ox
        have ox := ox9
        clear ox9
        refine (toEvent_any ek lb l r f t g wq2).mono ?_
        rintro e x2 ⟨rfl, bx_⟩
        replace c00 := keepB bx_ c00; replace c01 := keepB bx_ c01; replace c02 := keepB bx_ c02; replace c03 := keepB bx_ c03; replace c10 := keepB bx_ c10; replace c11 := keepB bx_ c11; replace c12 := keepB bx_ c12; replace c13 := keepB bx_ c13; replace c14 := keepB bx_ c14; replace c15 := keepB bx_ c15; replace c16 := keepB bx_ c16
        replace d0 := keepB bx_ d0; replace d1 := keepB bx_ d1; replace d2 := keepB bx_ d2; replace d3 := keepB bx_ d3
        replace fd0 := keepF bx_ (by first | (simp; done) | (simp; omega)) fd0; replace fd1 := keepF bx_ (by first | (simp; done) | (simp; omega)) fd1; replace fd2 := keepF bx_ (by first | (simp; done) | (simp; omega)) fd2; replace fd3 := keepF bx_ (by first | (simp; done) | (simp; omega)) fd3
        have hqb9 := hqb.below bx_ (by omega)
        clear hqb
        have hqb := hqb9
        clear hqb9
        have hs_ := bx_.size
        have hb9 := hb_.trans (bx_.mono hb_.size)
        clear hb_
        have hb_ := hb9
        clear hb9
        have ox9 := ox.below bx_ (by first | exact Nat.le_refl _ | omega)
        clear ox
        have ox := ox9
        clear ox9
        clear bx_
        go_wp2_with fail
        refine hK.out _ _ ?_ (fun hHeld2 => ?_)
        · (first | (try dsimp only); go_keep | (go_split_ands; refine ⟨?_, ?_, ?_, ?_, ?_, ?_, ?_, ?_, ?_, ?_, ?_⟩ <;> first | exact keepB bx5 (by assumption) | exact keepB bx4 (by assumption) | exact keepB bx3 (by assumption) | exact keepB bx2 (by assumption) | exact keepB bx1 (by assumption) | exact keepO bo5 (by first | (simp; done) | (simp; omega)) (by assumption) | exact keepO bo4 (by first | (simp; done) | (simp; omega)) (by assumption) | exact keepO bo3 (by first | (simp; done) | (simp; omega)) (by assumption) | exact keepO bo2 (by first | (simp; done) | (simp; omega)) (by assumption) | exact keepO bo1 (by first | (simp; done) | (simp; omega)) (by assumption) | exact keepW bg2 (by first | (simp; done) | (simp; omega)) (by assumption) | exact keepW bg1 (by first | (simp; done) | (simp; omega)) (by assumption) | assumption))
        clear hK K hHeld
        have hHeld := hHeld2
        clear hHeld2
        try simp only [Act.put, List.setIfInBounds_toArray, List.set_cons_zero, List.set_cons_succ]
        refine wpAnyH_ready (rs := [4]) (by kernel_rfl) (by simp) ?_
        refine AllReadyH.cons (o := ⟨some 26, _, _, _, _, _⟩) rfl (fun K hK => ?_) AllReadyH.nil
        go_simp
        go_at_call 21
        
        refine (sApplyEvent_fix _ _ _ ⟨es, a, b, z⟩ ⟨ek, lb, l, r, f, t, g⟩ es5 a5 b5 z5 rs x2 ox.es (by omega) hin.2 H64.out HM5.out Hrs.out).mono ?_
        rintro e x3 ⟨A3, c3, rfl, o3, bx_⟩
        replace c00 := keepB bx_ c00; replace c01 := keepB bx_ c01; replace c02 := keepB bx_ c02; replace c03 := keepB bx_ c03; replace c10 := keepB bx_ c10; replace c11 := keepB bx_ c11; replace c12 := keepB bx_ c12; replace c13 := keepB bx_ c13; replace c14 := keepB bx_ c14; replace c15 := keepB bx_ c15; replace c16 := keepB bx_ c16
        replace d0 := keepB bx_ d0; replace d1 := keepB bx_ d1; replace d2 := keepB bx_ d2; replace d3 := keepB bx_ d3
        replace fd0 := keepF bx_ (by first | (simp; done) | (simp; omega)) fd0; replace fd1 := keepF bx_ (by first | (simp; done) | (simp; omega)) fd1; replace fd2 := keepF bx_ (by first | (simp; done) | (simp; omega)) fd2; replace fd3 := keepF bx_ (by first | (simp; done) | (simp; omega)) fd3
        have hqb9 := hqb.below bx_ (by omega)
        clear hqb
        have hqb := hqb9
        clear hqb9
        have hs_ := bx_.size
        have hb9 := hb_.trans (bx_.mono hb_.size)
        clear hb_
        have hb_ := hb9
        clear hb9
        have ox9 := ox.below bx_ (by first | exact Nat.le_refl _ | omega)
        clear ox
        have ox := ox9
        clear ox9
        clear bx_
        go_wp2_with fail
        refine hK.out _ _ ?_ (fun hHeld2 => ?_)
        · (first | (try dsimp only); go_keep | (go_split_ands; refine ⟨?_, ?_, ?_, ?_, ?_, ?_, ?_, ?_, ?_, ?_, ?_⟩ <;> first | exact keepB bx5 (by assumption) | exact keepB bx4 (by assumption) | exact keepB bx3 (by assumption) | exact keepB bx2 (by assumption) | exact keepB bx1 (by assumption) | exact keepO bo5 (by first | (simp; done) | (simp; omega)) (by assumption) | exact keepO bo4 (by first | (simp; done) | (simp; omega)) (by assumption) | exact keepO bo3 (by first | (simp; done) | (simp; omega)) (by assumption) | exact keepO bo2 (by first | (simp; done) | (simp; omega)) (by assumption) | exact keepO bo1 (by first | (simp; done) | (simp; omega)) (by assumption) | exact keepW bg2 (by first | (simp; done) | (simp; omega)) (by assumption) | exact keepW bg1 (by first | (simp; done) | (simp; omega)) (by assumption) | assumption))
        clear hK K hHeld
        have hHeld := hHeld2
        clear hHeld2
        try simp only [Act.put, List.setIfInBounds_toArray, List.set_cons_zero, List.set_cons_succ]
        refine wpAnyH_take (i := 5) (oi := ⟨some 21, _, _, _, _, _⟩) (v := _) rfl (by kernel_rfl) (by kernel_rfl) (by kernel_rfl) (fun _ _ _ h => h) (Or.inl ⟨by kernel_rfl, by intro w hSw; (try dsimp only at hSw); go_simp; try with_reducible rfl⟩) (by assumption) ?_
        simp only [Act.put, List.setIfInBounds_toArray, List.set_cons_zero, List.set_cons_succ]
        refine wpAnyH_take (i := 6) (oi := ⟨some 27, _, _, _, _, _⟩) (v := _) rfl (by kernel_rfl) (by kernel_rfl) (by kernel_rfl) (fun _ _ _ h => h) (Or.inl ⟨by kernel_rfl, by intro w hSw; (try dsimp only at hSw); go_simp; try with_reducible rfl⟩) (by assumption) ?_
        simp only [Act.put, List.setIfInBounds_toArray, List.set_cons_zero, List.set_cons_succ]
        refine wpAnyH_take (i := 7) (oi := ⟨some 28, _, _, _, _, _⟩) (v := _) rfl (by kernel_rfl) (by kernel_rfl) (by kernel_rfl) (fun _ _ _ h => h) (Or.inl ⟨by kernel_rfl, by intro w hSw; (try dsimp only at hSw); go_simp; try with_reducible rfl⟩) (by assumption) ?_
        simp only [Act.put, List.setIfInBounds_toArray, List.set_cons_zero, List.set_cons_succ]
        refine wpAnyH_ready (rs := [9]) (by kernel_rfl) (by simp) ?_
        refine AllReadyH.cons (o := ⟨none, _, _, _, _, _⟩) rfl (fun K hK => ?_) AllReadyH.nil
        go_simp
        refine hK.out _ _ ?_ (fun hHeld2 => ?_)
        · (first | (try dsimp only); go_keep | (go_split_ands; refine ⟨?_, ?_, ?_, ?_, ?_, ?_, ?_, ?_, ?_, ?_, ?_⟩ <;> first | exact keepB bx5 (by assumption) | exact keepB bx4 (by assumption) | exact keepB bx3 (by assumption) | exact keepB bx2 (by assumption) | exact keepB bx1 (by assumption) | exact keepO bo5 (by first | (simp; done) | (simp; omega)) (by assumption) | exact keepO bo4 (by first | (simp; done) | (simp; omega)) (by assumption) | exact keepO bo3 (by first | (simp; done) | (simp; omega)) (by assumption) | exact keepO bo2 (by first | (simp; done) | (simp; omega)) (by assumption) | exact keepO bo1 (by first | (simp; done) | (simp; omega)) (by assumption) | exact keepW bg2 (by first | (simp; done) | (simp; omega)) (by assumption) | exact keepW bg1 (by first | (simp; done) | (simp; omega)) (by assumption) | assumption))
        clear hK K hHeld
        have hHeld := hHeld2
        clear hHeld2
        try simp only [Act.put, List.setIfInBounds_toArray, List.set_cons_zero, List.set_cons_succ]
        refine wpAnyH_take (i := 10) (oi := ⟨some 7, _, _, _, _, _⟩) (v := _) rfl (by kernel_rfl) (by kernel_rfl) (by kernel_rfl) (fun _ _ _ h => h) (Or.inl ⟨by kernel_rfl, by intro w hSw; (try dsimp only at hSw); go_simp; try with_reducible rfl⟩) (by assumption) ?_
        simp only [Act.put, List.setIfInBounds_toArray, List.set_cons_zero, List.set_cons_succ]
        refine wpAnyH_done (by kernel_rfl) ?_ _
      rotate_left 1
    rotate_left 3
    focus
      go_simp
      refine hK.out _ _ ?_ (fun hHeld2 => ?_)
      · (first | (try dsimp only); go_keep | (go_split_ands; refine ⟨?_, ?_, ?_, ?_, ?_, ?_, ?_, ?_, ?_, ?_, ?_⟩ <;> first | exact keepB bx5 (by assumption) | exact keepB bx4 (by assumption) | exact keepB bx3 (by assumption) | exact keepB bx2 (by assumption) | exact keepB bx1 (by assumption) | exact keepO bo5 (by first | (simp; done) | (simp; omega)) (by assumption) | exact keepO bo4 (by first | (simp; done) | (simp; omega)) (by assumption) | exact keepO bo3 (by first | (simp; done) | (simp; omega)) (by assumption) | exact keepO bo2 (by first | (simp; done) | (simp; omega)) (by assumption) | exact keepO bo1 (by first | (simp; done) | (simp; omega)) (by assumption) | exact keepW bg2 (by first | (simp; done) | (simp; omega)) (by assumption) | exact keepW bg1 (by first | (simp; done) | (simp; omega)) (by assumption) | assumption))
      clear hK K hHeld
      have hHeld := hHeld2
      clear hHeld2
      try simp only [Act.put, List.setIfInBounds_toArray, List.set_cons_zero, List.set_cons_succ]
      refine wpAnyH_ready (rs := [1]) (by kernel_rfl) (by simp) ?_
      refine AllReadyH.cons (o := ⟨some 23, _, _, _, _, _⟩) rfl (fun K hK => ?_) AllReadyH.nil
      go_simp
      go_at_call 35
      obtain ⟨wq, hwq⟩ : ∃ wq, wq = (y2.alloc (.cells #[.slice none 0 0, .int .i64 0, .int .i64 0, .int .i64 0] 25)).drew := ⟨_, rfl⟩
      have bq : Below y2.heap.size y2 wq := by rw [hwq]; exact ((Below.refl _ _).alloc (Nat.le_refl _) _).trans ((Qt.one _ 1).below _)
      have hqb : MB wq y2.heap.size (.slice none 0 0) 0 0 0 := by rw [hwq]; exact heap_alloc_new y2 _
      have hqa : y2.heap.size < wq.heap.size := hqb.lt
      have hne1 : ¬ y2.heap.size = w.heap.size := by omega
      have hne2 : ¬ y2.heap.size = w.heap.size + 1 := by omega
      obtain ⟨⟨d0, d1, d2, d3⟩, ⟨fd0, fd1, fd2, fd3⟩⟩ := hqb.cells
      rw [← hwq]
      clear hwq
      replace c00 := keepB bq c00; replace c01 := keepB bq c01; replace c02 := keepB bq c02; replace c03 := keepB bq c03; replace c10 := keepB bq c10; replace c11 := keepB bq c11; replace c12 := keepB bq c12; replace c13 := keepB bq c13; replace c14 := keepB bq c14; replace c15 := keepB bq c15; replace c16 := keepB bq c16
      have hb_ := bq
      refine (toMill_any 0 w.heap.size _ es a b z wq (hes wq (By2.trans (hb_.mono hsy2))) (by have := hb_.size; omega) hl HSz.out).mono ?_
      rintro e x1 ⟨vx, rfl, ox, bx_⟩
      obtain ⟨Ax, cx, rfl, _⟩ := ox.form
      replace c00 := keepB bx_ c00; replace c01 := keepB bx_ c01; replace c02 := keepB bx_ c02; replace c03 := keepB bx_ c03; replace c10 := keepB bx_ c10; replace c11 := keepB bx_ c11; replace c12 := keepB bx_ c12; replace c13 := keepB bx_ c13; replace c14 := keepB bx_ c14; replace c15 := keepB bx_ c15; replace c16 := keepB bx_ c16
      replace d0 := keepB bx_ d0; replace d1 := keepB bx_ d1; replace d2 := keepB bx_ d2; replace d3 := keepB bx_ d3
      replace fd0 := keepF bx_ (by first | (simp; done) | (simp; omega)) fd0; replace fd1 := keepF bx_ (by first | (simp; done) | (simp; omega)) fd1; replace fd2 := keepF bx_ (by first | (simp; done) | (simp; omega)) fd2; replace fd3 := keepF bx_ (by first | (simp; done) | (simp; omega)) fd3
      have hqb9 := hqb.below bx_ (by omega)
      clear hqb
      have hqb := hqb9
      clear hqb9
      have hs_ := bx_.size
      have hb9 := hb_.trans (bx_.mono hb_.size)
      clear hb_
      have hb_ := hb9
      clear hb9
      clear bx_
      go_wp2_with fail
      refine hK.out _ _ ?_ (fun hHeld2 => ?_)
      · (first | (try dsimp only); go_keep | (go_split_ands; refine ⟨?_, ?_, ?_, ?_, ?_, ?_, ?_, ?_, ?_, ?_, ?_⟩ <;> first | exact keepB bx5 (by assumption) | exact keepB bx4 (by assumption) | exact keepB bx3 (by assumption) | exact keepB bx2 (by assumption) | exact keepB bx1 (by assumption) | exact keepO bo5 (by first | (simp; done) | (simp; omega)) (by assumption) | exact keepO bo4 (by first | (simp; done) | (simp; omega)) (by assumption) | exact keepO bo3 (by first | (simp; done) | (simp; omega)) (by assumption) | exact keepO bo2 (by first | (simp; done) | (simp; omega)) (by assumption) | exact keepO bo1 (by first | (simp; done) | (simp; omega)) (by assumption) | exact keepW bg2 (by first | (simp; done) | (simp; omega)) (by assumption) | exact keepW bg1 (by first | (simp; done) | (simp; omega)) (by assumption) | assumption))
      clear hK K hHeld
      have hHeld := hHeld2
      clear hHeld2
      try simp only [Act.put, List.setIfInBounds_toArray, List.set_cons_zero, List.set_cons_succ]
      refine wpAnyH_ready (rs := [3]) (by kernel_rfl) (by simp) ?_
      refine AllReadyH.cons (o := ⟨some 25, _, _, _, _, _⟩) rfl (fun K hK => ?_) AllReadyH.nil
      go_simp
      go_at_call 36
      
      refine (toEvent_any ek lb l r f t g x1).mono ?_
      rintro e x2 ⟨rfl, bx_⟩
      replace c00 := keepB bx_ c00; replace c01 := keepB bx_ c01; replace c02 := keepB bx_ c02; replace c03 := keepB bx_ c03; replace c10 := keepB bx_ c10; replace c11 := keepB bx_ c11; replace c12 := keepB bx_ c12; replace c13 := keepB bx_ c13; replace c14 := keepB bx_ c14; replace c15 := keepB bx_ c15; replace c16 := keepB bx_ c16
      replace d0 := keepB bx_ d0; replace d1 := keepB bx_ d1; replace d2 := keepB bx_ d2; replace d3 := keepB bx_ d3
      replace fd0 := keepF bx_ (by first | (simp; done) | (simp; omega)) fd0; replace fd1 := keepF bx_ (by first | (simp; done) | (simp; omega)) fd1; replace fd2 := keepF bx_ (by first | (simp; done) | (simp; omega)) fd2; replace fd3 := keepF bx_ (by first | (simp; done) | (simp; omega)) fd3
      have hqb9 := hqb.below bx_ (by omega)
      clear hqb
      have hqb := hqb9
      clear hqb9
      have hs_ := bx_.size
      have hb9 := hb_.trans (bx_.mono hb_.size)
      clear hb_
      have hb_ := hb9
      clear hb9
      have ox9 := ox.below bx_ (by first | exact Nat.le_refl _ | omega)
      clear ox
      have ox := ox9
      clear ox9
      clear bx_
      go_wp2_with fail
      refine hK.out _ _ ?_ (fun hHeld2 => ?_)
      · (first | (try dsimp only); go_keep | (go_split_ands; refine ⟨?_, ?_, ?_, ?_, ?_, ?_, ?_, ?_, ?_, ?_, ?_⟩ <;> first | exact keepB bx5 (by assumption) | exact keepB bx4 (by assumption) | exact keepB bx3 (by assumption) | exact keepB bx2 (by assumption) | exact keepB bx1 (by assumption) | exact keepO bo5 (by first | (simp; done) | (simp; omega)) (by assumption) | exact keepO bo4 (by first | (simp; done) | (simp; omega)) (by assumption) | exact keepO bo3 (by first | (simp; done) | (simp; omega)) (by assumption) | exact keepO bo2 (by first | (simp; done) | (simp; omega)) (by assumption) | exact keepO bo1 (by first | (simp; done) | (simp; omega)) (by assumption) | exact keepW bg2 (by first | (simp; done) | (simp; omega)) (by assumption) | exact keepW bg1 (by first | (simp; done) | (simp; omega)) (by assumption) | assumption))
      clear hK K hHeld
      have hHeld := hHeld2
      clear hHeld2
      try simp only [Act.put, List.setIfInBounds_toArray, List.set_cons_zero, List.set_cons_succ]
      refine wpAnyH_ready (rs := [4]) (by kernel_rfl) (by simp) ?_
      refine AllReadyH.cons (o := ⟨some 26, _, _, _, _, _⟩) rfl (fun K hK => ?_) AllReadyH.nil
      go_simp
      go_at_call 21
      
      refine (sApplyEvent_fix _ _ _ ⟨es, a, b, z⟩ ⟨ek, lb, l, r, f, t, g⟩ es5 a5 b5 z5 rs x2 ox.es (by omega) hin.2 H64.out HM5.out Hrs.out).mono ?_
      rintro e x3 ⟨A3, c3, rfl, o3, bx_⟩
      replace c00 := keepB bx_ c00; replace c01 := keepB bx_ c01; replace c02 := keepB bx_ c02; replace c03 := keepB bx_ c03; replace c10 := keepB bx_ c10; replace c11 := keepB bx_ c11; replace c12 := keepB bx_ c12; replace c13 := keepB bx_ c13; replace c14 := keepB bx_ c14; replace c15 := keepB bx_ c15; replace c16 := keepB bx_ c16
      replace d0 := keepB bx_ d0; replace d1 := keepB bx_ d1; replace d2 := keepB bx_ d2; replace d3 := keepB bx_ d3
      replace fd0 := keepF bx_ (by first | (simp; done) | (simp; omega)) fd0; replace fd1 := keepF bx_ (by first | (simp; done) | (simp; omega)) fd1; replace fd2 := keepF bx_ (by first | (simp; done) | (simp; omega)) fd2; replace fd3 := keepF bx_ (by first | (simp; done) | (simp; omega)) fd3
      have hqb9 := hqb.below bx_ (by omega)
      clear hqb
      have hqb := hqb9
      clear hqb9
      have hs_ := bx_.size
      have hb9 := hb_.trans (bx_.mono hb_.size)
      clear hb_
      have hb_ := hb9
      clear hb9
      have ox9 := ox.below bx_ (by first | exact Nat.le_refl _ | omega)
      clear ox
      have ox := ox9
      clear ox9
      clear bx_
      go_wp2_with fail
      refine hK.out _ _ ?_ (fun hHeld2 => ?_)
      · (first | (try dsimp only); go_keep | (go_split_ands; refine ⟨?_, ?_, ?_, ?_, ?_, ?_, ?_, ?_, ?_, ?_, ?_⟩ <;> first | exact keepB bx5 (by assumption) | exact keepB bx4 (by assumption) | exact keepB bx3 (by assumption) | exact keepB bx2 (by assumption) | exact keepB bx1 (by assumption) | exact keepO bo5 (by first | (simp; done) | (simp; omega)) (by assumption) | exact keepO bo4 (by first | (simp; done) | (simp; omega)) (by assumption) | exact keepO bo3 (by first | (simp; done) | (simp; omega)) (by assumption) | exact keepO bo2 (by first | (simp; done) | (simp; omega)) (by assumption) | exact keepO bo1 (by first | (simp; done) | (simp; omega)) (by assumption) | exact keepW bg2 (by first | (simp; done) | (simp; omega)) (by assumption) | exact keepW bg1 (by first | (simp; done) | (simp; omega)) (by assumption) | assumption))
      clear hK K hHeld
      have hHeld := hHeld2
      clear hHeld2
      try simp only [Act.put, List.setIfInBounds_toArray, List.set_cons_zero, List.set_cons_succ]
      refine wpAnyH_take (i := 5) (oi := ⟨some 21, _, _, _, _, _⟩) (v := _) rfl (by kernel_rfl) (by kernel_rfl) (by kernel_rfl) (fun _ _ _ h => h) (Or.inl ⟨by kernel_rfl, by intro w hSw; (try dsimp only at hSw); go_simp; try with_reducible rfl⟩) (by assumption) ?_
      simp only [Act.put, List.setIfInBounds_toArray, List.set_cons_zero, List.set_cons_succ]
      refine wpAnyH_take (i := 6) (oi := ⟨some 27, _, _, _, _, _⟩) (v := _) rfl (by kernel_rfl) (by kernel_rfl) (by kernel_rfl) (fun _ _ _ h => h) (Or.inl ⟨by kernel_rfl, by intro w hSw; (try dsimp only at hSw); go_simp; try with_reducible rfl⟩) (by assumption) ?_
      simp only [Act.put, List.setIfInBounds_toArray, List.set_cons_zero, List.set_cons_succ]
      refine wpAnyH_take (i := 7) (oi := ⟨some 28, _, _, _, _, _⟩) (v := _) rfl (by kernel_rfl) (by kernel_rfl) (by kernel_rfl) (fun _ _ _ h => h) (Or.inl ⟨by kernel_rfl, by intro w hSw; (try dsimp only at hSw); go_simp; try with_reducible rfl⟩) (by assumption) ?_
      simp only [Act.put, List.setIfInBounds_toArray, List.set_cons_zero, List.set_cons_succ]
      refine wpAnyH_ready (rs := [9]) (by kernel_rfl) (by simp) ?_
      refine AllReadyH.cons (o := ⟨none, _, _, _, _, _⟩) rfl (fun K hK => ?_) AllReadyH.nil
      go_simp
      refine hK.out _ _ ?_ (fun hHeld2 => ?_)
      · (first | (try dsimp only); go_keep | (go_split_ands; refine ⟨?_, ?_, ?_, ?_, ?_, ?_, ?_, ?_, ?_, ?_, ?_⟩ <;> first | exact keepB bx5 (by assumption) | exact keepB bx4 (by assumption) | exact keepB bx3 (by assumption) | exact keepB bx2 (by assumption) | exact keepB bx1 (by assumption) | exact keepO bo5 (by first | (simp; done) | (simp; omega)) (by assumption) | exact keepO bo4 (by first | (simp; done) | (simp; omega)) (by assumption) | exact keepO bo3 (by first | (simp; done) | (simp; omega)) (by assumption) | exact keepO bo2 (by first | (simp; done) | (simp; omega)) (by assumption) | exact keepO bo1 (by first | (simp; done) | (simp; omega)) (by assumption) | exact keepW bg2 (by first | (simp; done) | (simp; omega)) (by assumption) | exact keepW bg1 (by first | (simp; done) | (simp; omega)) (by assumption) | assumption))
      clear hK K hHeld
      have hHeld := hHeld2
      clear hHeld2
      try simp only [Act.put, List.setIfInBounds_toArray, List.set_cons_zero, List.set_cons_succ]
      refine wpAnyH_take (i := 10) (oi := ⟨some 7, _, _, _, _, _⟩) (v := _) rfl (by kernel_rfl) (by kernel_rfl) (by kernel_rfl) (fun _ _ _ h => h) (Or.inl ⟨by kernel_rfl, by intro w hSw; (try dsimp only at hSw); go_simp; try with_reducible rfl⟩) (by assumption) ?_
      simp only [Act.put, List.setIfInBounds_toArray, List.set_cons_zero, List.set_cons_succ]
      refine wpAnyH_done (by kernel_rfl) ?_ _
    rotate_left 1
    focus
      obtain ⟨wz, hwz⟩ : ∃ wz, wz = x3.alloc (.cells #[.slice A3 es5.length c3, .int .i64 a5, .int .i64 b5, .int .i64 z5] 25) := ⟨_, rfl⟩
      have bz : Below x3.heap.size x3 wz := by rw [hwz]; exact (Below.refl _ _).alloc (Nat.le_refl _) _
      have hmz : MB wz x3.heap.size (.slice A3 es5.length c3) a5 b5 z5 := by rw [hwz]; exact heap_alloc_new x3 _
      have hbz := hb_.trans (bz.mono hb_.size)
      have hoz := o3.below bz (Nat.le_refl _)
      have hsz := bz.size
      have hsy := hb_.size
      obtain ⟨X9, hX9⟩ : ∃ X, X = x3.heap.size := ⟨_, rfl⟩
      rw [← hX9] at hmz
      rw [← hX9, ← hwz]
      exact hk X9 wz Ax cx A3 c3 ⟨hbz, hmz, hoz.wide (by omega) (by omega)⟩
    focus
      obtain ⟨X9, hX9⟩ : ∃ X, X = x2.heap.size := ⟨_, rfl⟩
      obtain ⟨wz, hwz⟩ : ∃ wz, wz = (((x3.setCell ⟨x2.heap.size, 0, none⟩ (.slice A3 es5.length c3)).setCell ⟨x2.heap.size, 1, none⟩ (.int .i64 a5)).setCell ⟨x2.heap.size, 2, none⟩ (.int .i64 b5)).setCell ⟨x2.heap.size, 3, none⟩ (.int .i64 z5) := ⟨_, rfl⟩
      have hmz : MB wz x2.heap.size (.slice A3 es5.length c3) a5 b5 z5 := by rw [hwz]; exact (((hqb.set0 _).set1 _).set2 _).set3 _
      have hsy := hb_.size
      have hle9 : y2.heap.size ≤ x2.heap.size := by omega
      have hbz : Below y2.heap.size y2 wz := by rw [hwz]; exact (((hb_.setCell (p := ⟨_, _, _⟩) hle9 _).setCell (p := ⟨_, _, _⟩) hle9 _).setCell (p := ⟨_, _, _⟩) hle9 _).setCell (p := ⟨_, _, _⟩) hle9 _
      have hoz := o3.kept (w' := wz) (fun q hq _ => by rw [hwz]; simp only [World.setCell, Array.getElem?_modify, if_neg (show ¬ x2.heap.size = q by omega)])
      have hsz : wz.heap.size = x3.heap.size := by rw [hwz]; simp [World.setCell]
      rw [← hX9] at hmz
      rw [← hwz, ← hX9]
      exact hk X9 wz Ax cx A3 c3 ⟨hbz, hmz, hoz.wide (by omega) (by omega)⟩
    focus
      obtain ⟨X9, hX9⟩ : ∃ X, X = x1.heap.size := ⟨_, rfl⟩
      obtain ⟨wz, hwz⟩ : ∃ wz, wz = (((x3.setCell ⟨x1.heap.size, 0, none⟩ (.slice A3 es5.length c3)).setCell ⟨x1.heap.size, 1, none⟩ (.int .i64 a5)).setCell ⟨x1.heap.size, 2, none⟩ (.int .i64 b5)).setCell ⟨x1.heap.size, 3, none⟩ (.int .i64 z5) := ⟨_, rfl⟩
      have hmz : MB wz x1.heap.size (.slice A3 es5.length c3) a5 b5 z5 := by rw [hwz]; exact (((hqb.set0 _).set1 _).set2 _).set3 _
      have hsy := hb_.size
      have hle9 : y2.heap.size ≤ x1.heap.size := by omega
      have hbz : Below y2.heap.size y2 wz := by rw [hwz]; exact (((hb_.setCell (p := ⟨_, _, _⟩) hle9 _).setCell (p := ⟨_, _, _⟩) hle9 _).setCell (p := ⟨_, _, _⟩) hle9 _).setCell (p := ⟨_, _, _⟩) hle9 _
      have hoz := o3.kept (w' := wz) (fun q hq _ => by rw [hwz]; simp only [World.setCell, Array.getElem?_modify, if_neg (show ¬ x1.heap.size = q by omega)])
      have hsz : wz.heap.size = x3.heap.size := by rw [hwz]; simp [World.setCell]
      rw [← hX9] at hmz
      rw [← hwz, ← hX9]
      exact hk X9 wz Ax cx A3 c3 ⟨hbz, hmz, hoz.wide (by omega) (by omega)⟩
    focus
      obtain ⟨X9, hX9⟩ : ∃ X, X = y2.heap.size := ⟨_, rfl⟩
      obtain ⟨wz, hwz⟩ : ∃ wz, wz = (((x3.setCell ⟨y2.heap.size, 0, none⟩ (.slice A3 es5.length c3)).setCell ⟨y2.heap.size, 1, none⟩ (.int .i64 a5)).setCell ⟨y2.heap.size, 2, none⟩ (.int .i64 b5)).setCell ⟨y2.heap.size, 3, none⟩ (.int .i64 z5) := ⟨_, rfl⟩
      have hmz : MB wz y2.heap.size (.slice A3 es5.length c3) a5 b5 z5 := by rw [hwz]; exact (((hqb.set0 _).set1 _).set2 _).set3 _
      have hsy := hb_.size
      have hle9 : y2.heap.size ≤ y2.heap.size := by omega
      have hbz : Below y2.heap.size y2 wz := by rw [hwz]; exact (((hb_.setCell (p := ⟨_, _, _⟩) hle9 _).setCell (p := ⟨_, _, _⟩) hle9 _).setCell (p := ⟨_, _, _⟩) hle9 _).setCell (p := ⟨_, _, _⟩) hle9 _
      have hoz := o3.kept (w' := wz) (fun q hq _ => by rw [hwz]; simp only [World.setCell, Array.getElem?_modify, if_neg (show ¬ y2.heap.size = q by omega)])
      have hsz : wz.heap.size = x3.heap.size := by rw [hwz]; simp [World.setCell]
      rw [← hX9] at hmz
      rw [← hwz, ← hX9]
      exact hk X9 wz Ax cx A3 c3 ⟨hbz, hmz, hoz.wide (by omega) (by omega)⟩

  obtain ⟨b3, hm3, he3⟩ := hF
  have sb3 := b3.size
  have By3 := By2.trans (b3.mono hsy2)
  replace c00 := keepB b3 c00; replace c01 := keepB b3 c01; replace c02 := keepB b3 c02; replace c03 := keepB b3 c03; replace c10 := keepB b3 c10; replace c11 := keepB b3 c11; replace c12 := keepB b3 c12; replace c13 := keepB b3 c13; replace c14 := keepB b3 c14; replace c15 := keepB b3 c15; replace c16 := keepB b3 c16
  obtain ⟨⟨t0, t1, t2, t3⟩, _⟩ := hm3.cells
  have Hm3 := Lib.hid hm3
  have hX3 := hm3.lt
  have hrr : (rs != rs) = false := by cases rs <;> rfl
  clear b3 hm3
  go_wp2_with fail
  refine (toMill_any 0 w.heap.size _ es a b z y3 (hes y3 By3) (by omega) hl HSz.out).mono ?_
  rintro e y4 ⟨v4, rfl, o4, bx⟩
  obtain ⟨A4, c4, rfl, _⟩ := o4.form
  have sb4 := bx.size
  have By4 := By3.trans (bx.mono (by omega))
  replace c00 := keepB bx c00; replace c01 := keepB bx c01; replace c02 := keepB bx c02; replace c03 := keepB bx c03; replace c10 := keepB bx c10; replace c11 := keepB bx c11; replace c12 := keepB bx c12; replace c13 := keepB bx c13; replace c14 := keepB bx c14; replace c15 := keepB bx c15; replace c16 := keepB bx c16; replace t0 := keepB bx t0; replace t1 := keepB bx t1; replace t2 := keepB bx t2; replace t3 := keepB bx t3
  have he4 := he3.below bx (Nat.le_refl _)
  clear bx he3 Hm3
  go_wp2_with fail
  obtain ⟨y5, hw1⟩ : ∃ y5, y5 = y4.alloc (.cells #[.slice A4 es.length c4, .int .i64 a, .int .i64 b, .int .i64 z] 25) := ⟨_, rfl⟩
  have u0 : y5.cell? ⟨y4.heap.size, 0, none⟩ = some (.slice A4 es.length c4) := by rw [hw1]; go_simp
  have u1 : y5.cell? ⟨y4.heap.size, 1, none⟩ = some (.int .i64 a) := by rw [hw1]; go_simp
  have u2 : y5.cell? ⟨y4.heap.size, 2, none⟩ = some (.int .i64 b) := by rw [hw1]; go_simp
  have u3 : y5.cell? ⟨y4.heap.size, 3, none⟩ = some (.int .i64 z) := by rw [hw1]; go_simp
  have bu : Below y4.heap.size y4 y5 := by rw [hw1]; exact (Below.refl _ _).alloc (Nat.le_refl _) _
  have zu : y4.heap.size < y5.heap.size := by rw [hw1]; simp
  have Hu := Lib.hid (show y5.heap[y4.heap.size]? = some (.cells #[.slice A4 es.length c4, .int .i64 a, .int .i64 b, .int .i64 z] 25) by rw [hw1]; exact heap_alloc_new y4 _)
  rw [← hw1]
  clear hw1
  have sb5 := bu.size
  have By5 := By4.trans (bu.mono (by omega))
  replace c00 := keepB bu c00; replace c01 := keepB bu c01; replace c02 := keepB bu c02; replace c03 := keepB bu c03; replace c10 := keepB bu c10; replace c11 := keepB bu c11; replace c12 := keepB bu c12; replace c13 := keepB bu c13; replace c14 := keepB bu c14; replace c15 := keepB bu c15; replace c16 := keepB bu c16; replace t0 := keepB bu t0; replace t1 := keepB bu t1; replace t2 := keepB bu t2; replace t3 := keepB bu t3
  have he5 := he4.below bu (by omega)
  have Ho5 := Lib.hid (o4.below bu (Nat.le_refl _))
  obtain ⟨X8, hX8⟩ : ∃ X, X = y4.heap.size := ⟨_, rfl⟩
  rw [← hX8] at u0 u1 u2 u3 zu
  rw [← hX8]
  have hX8' : y4.heap.size = X8 := hX8.symm
  have hsy5 : w.heap.size ≤ y5.heap.size := By5.size
  have h48 : y4.heap.size ≤ X8 := by omega
  have h84 : X8 ≤ y4.heap.size := by omega
  clear bu o4 he4 Hu hX8 hX8'
  refine' merge4 (F := fun X w' A5 c5 => Below y5.heap.size y5 w' ∧ MB w' X (.slice A5 es5.length c5) a5 b5 z5 ∧ y5.heap.size ≤ X ∧ ∃ lo hi : Nat, (y5.heap.size ≤ lo ∧ hi ≤ w'.heap.size ∧ (X < lo ∨ hi ≤ X)) ∧ OwnE w' lo hi 35 82 38 (.slice A5 es5.length c5) es5) (fun hk => ?_) (fun X9 y6 A5 c5 hF => ?_)
  rotate_left 1
  ·
    refine wp_region_held_drew (S := fun w' => w'.cell? ⟨w.heap.size, 0, none⟩ = some (.slice A es.length c) ∧ w'.cell? ⟨w.heap.size, 1, none⟩ = some (.int .i64 a) ∧ w'.cell? ⟨w.heap.size, 2, none⟩ = some (.int .i64 b) ∧ w'.cell? ⟨w.heap.size, 3, none⟩ = some (.int .i64 z) ∧ w'.cell? ⟨w.heap.size + 1, 0, none⟩ = some (.int .i64 ek) ∧ w'.cell? ⟨w.heap.size + 1, 1, none⟩ = some (.int .i64 lb) ∧ w'.cell? ⟨w.heap.size + 1, 2, none⟩ = some (.int .i64 l) ∧ w'.cell? ⟨w.heap.size + 1, 3, none⟩ = some (.int .i64 r) ∧ w'.cell? ⟨w.heap.size + 1, 4, none⟩ = some (.int .i64 f) ∧ w'.cell? ⟨w.heap.size + 1, 5, none⟩ = some (.int .i64 t) ∧ w'.cell? ⟨w.heap.size + 1, 6, none⟩ = some (.int .i64 g) ∧ w'.cell? ⟨X8, 0, none⟩ = some (.slice A4 es.length c4) ∧ w'.cell? ⟨X8, 1, none⟩ = some (.int .i64 a) ∧ w'.cell? ⟨X8, 2, none⟩ = some (.int .i64 b) ∧ w'.cell? ⟨X8, 3, none⟩ = some (.int .i64 z)) (by kernel_rfl) ?_ (fun hHeld => ?_)
    · (first | (try dsimp only); go_keep | (go_split_ands; refine ⟨?_, ?_, ?_, ?_, ?_, ?_, ?_, ?_, ?_, ?_, ?_, ?_, ?_, ?_, ?_⟩ <;> first | exact keepB bx5 (by assumption) | exact keepB bx4 (by assumption) | exact keepB bx3 (by assumption) | exact keepB bx2 (by assumption) | exact keepB bx1 (by assumption) | exact keepO bo5 (by first | (simp; done) | (simp; omega)) (by assumption) | exact keepO bo4 (by first | (simp; done) | (simp; omega)) (by assumption) | exact keepO bo3 (by first | (simp; done) | (simp; omega)) (by assumption) | exact keepO bo2 (by first | (simp; done) | (simp; omega)) (by assumption) | exact keepO bo1 (by first | (simp; done) | (simp; omega)) (by assumption) | exact keepW bg2 (by first | (simp; done) | (simp; omega)) (by assumption) | exact keepW bg1 (by first | (simp; done) | (simp; omega)) (by assumption) | assumption))
    refine wpAnyH_take (i := 0) (oi := ⟨some 32, _, _, _, _, _⟩) (v := _) rfl (by kernel_rfl) (by kernel_rfl) (by kernel_rfl) (fun _ _ _ h => h) (Or.inl ⟨by kernel_rfl, by intro w hSw; (try dsimp only at hSw); go_simp; try with_reducible rfl⟩) (by assumption) ?_
    simp only [Act.put, List.setIfInBounds_toArray, List.set_cons_zero, List.set_cons_succ]
    refine wpAnyH_take (i := 1) (oi := ⟨some 33, _, _, _, _, _⟩) (v := _) rfl (by kernel_rfl) (by kernel_rfl) (by kernel_rfl) (fun _ _ _ h => h) (Or.inl ⟨by kernel_rfl, by intro w hSw; (try dsimp only at hSw); go_simp; try with_reducible rfl⟩) (by assumption) ?_
    simp only [Act.put, List.setIfInBounds_toArray, List.set_cons_zero, List.set_cons_succ]
    refine wpAnyH_ready (rs := [2, 7]) (by kernel_rfl) (by simp) (AllReadyH.cons (o := ⟨some 34, _, _, _, _, _⟩) rfl (fun K hK => ?_) (AllReadyH.cons (o := ⟨some 9, _, _, _, _, _⟩) rfl (fun K hK => ?_) (AllReadyH.nil)))
    focus
      go_simp
      go_at_call 36
      obtain ⟨wq, hwq⟩ : ∃ wq, wq = y5.drew := ⟨_, rfl⟩
      have bq : Below y5.heap.size y5 wq := by rw [hwq]; exact (Qt.one _ 1).below _
      have hsq := bq.size
      rw [← hwq]
      clear hwq
      replace c00 := keepB bq c00; replace c01 := keepB bq c01; replace c02 := keepB bq c02; replace c03 := keepB bq c03; replace c10 := keepB bq c10; replace c11 := keepB bq c11; replace c12 := keepB bq c12; replace c13 := keepB bq c13; replace c14 := keepB bq c14; replace c15 := keepB bq c15; replace c16 := keepB bq c16; replace u0 := keepB bq u0; replace u1 := keepB bq u1; replace u2 := keepB bq u2; replace u3 := keepB bq u3
      have hb_ := bq
      refine (toEvent_any ek lb l r f t g wq).mono ?_
      rintro e x1 ⟨rfl, bx_⟩
      replace c00 := keepB bx_ c00; replace c01 := keepB bx_ c01; replace c02 := keepB bx_ c02; replace c03 := keepB bx_ c03; replace c10 := keepB bx_ c10; replace c11 := keepB bx_ c11; replace c12 := keepB bx_ c12; replace c13 := keepB bx_ c13; replace c14 := keepB bx_ c14; replace c15 := keepB bx_ c15; replace c16 := keepB bx_ c16; replace u0 := keepB bx_ u0; replace u1 := keepB bx_ u1; replace u2 := keepB bx_ u2; replace u3 := keepB bx_ u3
      have hs_ := bx_.size
      have hb9 := hb_.trans (bx_.mono hb_.size)
      clear hb_
      have hb_ := hb9
      clear hb9
      clear bx_
      go_wp2_with fail
      refine hK.out _ _ ?_ (fun hHeld2 => ?_)
      · (first | (try dsimp only); go_keep | (go_split_ands; refine ⟨?_, ?_, ?_, ?_, ?_, ?_, ?_, ?_, ?_, ?_, ?_, ?_, ?_, ?_, ?_⟩ <;> first | exact keepB bx5 (by assumption) | exact keepB bx4 (by assumption) | exact keepB bx3 (by assumption) | exact keepB bx2 (by assumption) | exact keepB bx1 (by assumption) | exact keepO bo5 (by first | (simp; done) | (simp; omega)) (by assumption) | exact keepO bo4 (by first | (simp; done) | (simp; omega)) (by assumption) | exact keepO bo3 (by first | (simp; done) | (simp; omega)) (by assumption) | exact keepO bo2 (by first | (simp; done) | (simp; omega)) (by assumption) | exact keepO bo1 (by first | (simp; done) | (simp; omega)) (by assumption) | exact keepW bg2 (by first | (simp; done) | (simp; omega)) (by assumption) | exact keepW bg1 (by first | (simp; done) | (simp; omega)) (by assumption) | assumption))
      clear hK K hHeld
      have hHeld := hHeld2
      clear hHeld2
      try simp only [Act.put, List.setIfInBounds_toArray, List.set_cons_zero, List.set_cons_succ]
      refine wpAnyH_ready (rs := [3, 7]) (by kernel_rfl) (by simp) (AllReadyH.cons (o := ⟨some 35, _, _, _, _, _⟩) rfl (fun K hK => ?_) (AllReadyH.cons (o := ⟨some 9, _, _, _, _, _⟩) rfl (fun K hK => ?_) (AllReadyH.nil)))
      focus
        go_simp
        go_at_call 20
        
        refine (ApplyEvent_fix _ _ _ ⟨es, a, b, z⟩ ⟨ek, lb, l, r, f, t, g⟩ es5 a5 b5 z5 rs x1 (Ho5.out.below hb_ (by omega)).es (by have := hb_.size; omega) hin H64.out HM5.out Hrs.out).mono ?_
        rintro e x2 ⟨A5, c5, rfl, o3, bx_⟩
        replace c00 := keepB bx_ c00; replace c01 := keepB bx_ c01; replace c02 := keepB bx_ c02; replace c03 := keepB bx_ c03; replace c10 := keepB bx_ c10; replace c11 := keepB bx_ c11; replace c12 := keepB bx_ c12; replace c13 := keepB bx_ c13; replace c14 := keepB bx_ c14; replace c15 := keepB bx_ c15; replace c16 := keepB bx_ c16; replace u0 := keepB bx_ u0; replace u1 := keepB bx_ u1; replace u2 := keepB bx_ u2; replace u3 := keepB bx_ u3
        have hs_ := bx_.size
        have hb9 := hb_.trans (bx_.mono hb_.size)
        clear hb_
        have hb_ := hb9
        clear hb9
        clear bx_
        go_wp2_with fail
        refine hK.out _ _ ?_ (fun hHeld2 => ?_)
        · (first | (try dsimp only); go_keep | (go_split_ands; refine ⟨?_, ?_, ?_, ?_, ?_, ?_, ?_, ?_, ?_, ?_, ?_, ?_, ?_, ?_, ?_⟩ <;> first | exact keepB bx5 (by assumption) | exact keepB bx4 (by assumption) | exact keepB bx3 (by assumption) | exact keepB bx2 (by assumption) | exact keepB bx1 (by assumption) | exact keepO bo5 (by first | (simp; done) | (simp; omega)) (by assumption) | exact keepO bo4 (by first | (simp; done) | (simp; omega)) (by assumption) | exact keepO bo3 (by first | (simp; done) | (simp; omega)) (by assumption) | exact keepO bo2 (by first | (simp; done) | (simp; omega)) (by assumption) | exact keepO bo1 (by first | (simp; done) | (simp; omega)) (by assumption) | exact keepW bg2 (by first | (simp; done) | (simp; omega)) (by assumption) | exact keepW bg1 (by first | (simp; done) | (simp; omega)) (by assumption) | assumption))
        clear hK K hHeld
        have hHeld := hHeld2
        clear hHeld2
        try simp only [Act.put, List.setIfInBounds_toArray, List.set_cons_zero, List.set_cons_succ]
        refine wpAnyH_take (i := 4) (oi := ⟨some 31, _, _, _, _, _⟩) (v := _) rfl (by kernel_rfl) (by kernel_rfl) (by kernel_rfl) (fun _ _ _ h => h) (Or.inl ⟨by kernel_rfl, by intro w hSw; (try dsimp only at hSw); go_simp; try with_reducible rfl⟩) (by assumption) ?_
        simp only [Act.put, List.setIfInBounds_toArray, List.set_cons_zero, List.set_cons_succ]
        refine wpAnyH_take (i := 5) (oi := ⟨some 36, _, _, _, _, _⟩) (v := _) rfl (by kernel_rfl) (by kernel_rfl) (by kernel_rfl) (fun _ _ _ h => h) (Or.inl ⟨by kernel_rfl, by intro w hSw; (try dsimp only at hSw); go_simp; try with_reducible rfl⟩) (by assumption) ?_
        simp only [Act.put, List.setIfInBounds_toArray, List.set_cons_zero, List.set_cons_succ]
        refine wpAnyH_take (i := 6) (oi := ⟨some 37, _, _, _, _, _⟩) (v := _) rfl (by kernel_rfl) (by kernel_rfl) (by kernel_rfl) (fun _ _ _ h => h) (Or.inl ⟨by kernel_rfl, by intro w hSw; (try dsimp only at hSw); go_simp; try with_reducible rfl⟩) (by assumption) ?_
        simp only [Act.put, List.setIfInBounds_toArray, List.set_cons_zero, List.set_cons_succ]
        refine wpAnyH_ready (rs := [7]) (by kernel_rfl) (by simp) ?_
        refine AllReadyH.cons (o := ⟨some 9, _, _, _, _, _⟩) rfl (fun K hK => ?_) AllReadyH.nil
        go_simp
        refine hK.out _ _ ?_ (fun hHeld2 => ?_)
        · (first | (try dsimp only); go_keep | (go_split_ands; refine ⟨?_, ?_, ?_, ?_, ?_, ?_, ?_, ?_, ?_, ?_, ?_, ?_, ?_, ?_, ?_⟩ <;> first | exact keepB bx5 (by assumption) | exact keepB bx4 (by assumption) | exact keepB bx3 (by assumption) | exact keepB bx2 (by assumption) | exact keepB bx1 (by assumption) | exact keepO bo5 (by first | (simp; done) | (simp; omega)) (by assumption) | exact keepO bo4 (by first | (simp; done) | (simp; omega)) (by assumption) | exact keepO bo3 (by first | (simp; done) | (simp; omega)) (by assumption) | exact keepO bo2 (by first | (simp; done) | (simp; omega)) (by assumption) | exact keepO bo1 (by first | (simp; done) | (simp; omega)) (by assumption) | exact keepW bg2 (by first | (simp; done) | (simp; omega)) (by assumption) | exact keepW bg1 (by first | (simp; done) | (simp; omega)) (by assumption) | assumption))
        clear hK K hHeld
        have hHeld := hHeld2
        clear hHeld2
        try simp only [Act.put, List.setIfInBounds_toArray, List.set_cons_zero, List.set_cons_succ]
        refine wpAnyH_ready (rs := [8]) (by kernel_rfl) (by simp) ?_
        refine AllReadyH.cons (o := ⟨none, _, _, _, _, _⟩) rfl (fun K hK => ?_) AllReadyH.nil
        go_simp
        refine hK.out _ _ ?_ (fun hHeld2 => ?_)
        · (first | (try dsimp only); go_keep | (go_split_ands; refine ⟨?_, ?_, ?_, ?_, ?_, ?_, ?_, ?_, ?_, ?_, ?_, ?_, ?_, ?_, ?_⟩ <;> first | exact keepB bx5 (by assumption) | exact keepB bx4 (by assumption) | exact keepB bx3 (by assumption) | exact keepB bx2 (by assumption) | exact keepB bx1 (by assumption) | exact keepO bo5 (by first | (simp; done) | (simp; omega)) (by assumption) | exact keepO bo4 (by first | (simp; done) | (simp; omega)) (by assumption) | exact keepO bo3 (by first | (simp; done) | (simp; omega)) (by assumption) | exact keepO bo2 (by first | (simp; done) | (simp; omega)) (by assumption) | exact keepO bo1 (by first | (simp; done) | (simp; omega)) (by assumption) | exact keepW bg2 (by first | (simp; done) | (simp; omega)) (by assumption) | exact keepW bg1 (by first | (simp; done) | (simp; omega)) (by assumption) | assumption))
        clear hK K hHeld
        have hHeld := hHeld2
        clear hHeld2
        try simp only [Act.put, List.setIfInBounds_toArray, List.set_cons_zero, List.set_cons_succ]
        refine wpAnyH_take (i := 9) (oi := ⟨some 10, _, _, _, _, _⟩) (v := _) rfl (by kernel_rfl) (by kernel_rfl) (by kernel_rfl) (fun _ _ _ h => h) (Or.inl ⟨by kernel_rfl, by intro w hSw; (try dsimp only at hSw); go_simp; try with_reducible rfl⟩) (by assumption) ?_
        simp only [Act.put, List.setIfInBounds_toArray, List.set_cons_zero, List.set_cons_succ]
        refine wpAnyH_done (by kernel_rfl) ?_ _
      rotate_left 1
      focus
        go_simp
        refine hK.out _ _ ?_ (fun hHeld2 => ?_)
        · (first | (try dsimp only); go_keep | (go_split_ands; refine ⟨?_, ?_, ?_, ?_, ?_, ?_, ?_, ?_, ?_, ?_, ?_, ?_, ?_, ?_, ?_⟩ <;> first | exact keepB bx5 (by assumption) | exact keepB bx4 (by assumption) | exact keepB bx3 (by assumption) | exact keepB bx2 (by assumption) | exact keepB bx1 (by assumption) | exact keepO bo5 (by first | (simp; done) | (simp; omega)) (by assumption) | exact keepO bo4 (by first | (simp; done) | (simp; omega)) (by assumption) | exact keepO bo3 (by first | (simp; done) | (simp; omega)) (by assumption) | exact keepO bo2 (by first | (simp; done) | (simp; omega)) (by assumption) | exact keepO bo1 (by first | (simp; done) | (simp; omega)) (by assumption) | exact keepW bg2 (by first | (simp; done) | (simp; omega)) (by assumption) | exact keepW bg1 (by first | (simp; done) | (simp; omega)) (by assumption) | assumption))
        clear hK K hHeld
        have hHeld := hHeld2
        clear hHeld2
        try simp only [Act.put, List.setIfInBounds_toArray, List.set_cons_zero, List.set_cons_succ]
        refine wpAnyH_ready (rs := [3]) (by kernel_rfl) (by simp) ?_
        refine AllReadyH.cons (o := ⟨some 35, _, _, _, _, _⟩) rfl (fun K hK => ?_) AllReadyH.nil
        go_simp
        go_at_call 20
        obtain ⟨wq2, hwq⟩ : ∃ wq2, wq2 = x1.alloc (.cells #[.slice none 0 0, .int .i64 0, .int .i64 0, .int .i64 0] 25) := ⟨_, rfl⟩
        have bq : Below x1.heap.size x1 wq2 := by rw [hwq]; exact (Below.refl _ _).alloc (Nat.le_refl _) _
        have hqb : MB wq2 x1.heap.size (.slice none 0 0) 0 0 0 := by rw [hwq]; exact heap_alloc_new x1 _
        have hqa : x1.heap.size < wq2.heap.size := hqb.lt
        have hsy9 := hb_.size
        have hne1 : ¬ x1.heap.size = w.heap.size := by omega
        have hne2 : ¬ x1.heap.size = w.heap.size + 1 := by omega
        have hne_0 : ¬ x1.heap.size = X8 := by omega
        obtain ⟨⟨d0, d1, d2, d3⟩, ⟨fd0, fd1, fd2, fd3⟩⟩ := hqb.cells
        rw [← hwq]
        clear hwq
        replace c00 := keepB bq c00; replace c01 := keepB bq c01; replace c02 := keepB bq c02; replace c03 := keepB bq c03; replace c10 := keepB bq c10; replace c11 := keepB bq c11; replace c12 := keepB bq c12; replace c13 := keepB bq c13; replace c14 := keepB bq c14; replace c15 := keepB bq c15; replace c16 := keepB bq c16; replace u0 := keepB bq u0; replace u1 := keepB bq u1; replace u2 := keepB bq u2; replace u3 := keepB bq u3
        have hb9 := hb_.trans (bq.mono hb_.size)
        clear hb_
        have hb_ := hb9
        clear hb9
        refine (ApplyEvent_fix _ _ _ ⟨es, a, b, z⟩ ⟨ek, lb, l, r, f, t, g⟩ es5 a5 b5 z5 rs wq2 (Ho5.out.below hb_ (by omega)).es (by have := hb_.size; omega) hin H64.out HM5.out Hrs.out).mono ?_
        rintro e x2 ⟨A5, c5, rfl, o3, bx_⟩
        replace c00 := keepB bx_ c00; replace c01 := keepB bx_ c01; replace c02 := keepB bx_ c02; replace c03 := keepB bx_ c03; replace c10 := keepB bx_ c10; replace c11 := keepB bx_ c11; replace c12 := keepB bx_ c12; replace c13 := keepB bx_ c13; replace c14 := keepB bx_ c14; replace c15 := keepB bx_ c15; replace c16 := keepB bx_ c16; replace u0 := keepB bx_ u0; replace u1 := keepB bx_ u1; replace u2 := keepB bx_ u2; replace u3 := keepB bx_ u3
        replace d0 := keepB bx_ d0; replace d1 := keepB bx_ d1; replace d2 := keepB bx_ d2; replace d3 := keepB bx_ d3
        replace fd0 := keepF bx_ (by first | (simp; done) | (simp; omega)) fd0; replace fd1 := keepF bx_ (by first | (simp; done) | (simp; omega)) fd1; replace fd2 := keepF bx_ (by first | (simp; done) | (simp; omega)) fd2; replace fd3 := keepF bx_ (by first | (simp; done) | (simp; omega)) fd3
        have hqb9 := hqb.below bx_ (by omega)
        clear hqb
        have hqb := hqb9
        clear hqb9
        have hs_ := bx_.size
        have hb9 := hb_.trans (bx_.mono hb_.size)
        clear hb_
        have hb_ := hb9
        clear hb9
        clear bx_
        go_wp2_with fail
        refine hK.out _ _ ?_ (fun hHeld2 => ?_)
        · (first | (try dsimp only); go_keep | (go_split_ands; refine ⟨?_, ?_, ?_, ?_, ?_, ?_, ?_, ?_, ?_, ?_, ?_, ?_, ?_, ?_, ?_⟩ <;> first | exact keepB bx5 (by assumption) | exact keepB bx4 (by assumption) | exact keepB bx3 (by assumption) | exact keepB bx2 (by assumption) | exact keepB bx1 (by assumption) | exact keepO bo5 (by first | (simp; done) | (simp; omega)) (by assumption) | exact keepO bo4 (by first | (simp; done) | (simp; omega)) (by assumption) | exact keepO bo3 (by first | (simp; done) | (simp; omega)) (by assumption) | exact keepO bo2 (by first | (simp; done) | (simp; omega)) (by assumption) | exact keepO bo1 (by first | (simp; done) | (simp; omega)) (by assumption) | exact keepW bg2 (by first | (simp; done) | (simp; omega)) (by assumption) | exact keepW bg1 (by first | (simp; done) | (simp; omega)) (by assumption) | assumption))
        clear hK K hHeld
        have hHeld := hHeld2
        clear hHeld2
        try simp only [Act.put, List.setIfInBounds_toArray, List.set_cons_zero, List.set_cons_succ]
        refine wpAnyH_take (i := 4) (oi := ⟨some 31, _, _, _, _, _⟩) (v := _) rfl (by kernel_rfl) (by kernel_rfl) (by kernel_rfl) (fun _ _ _ h => h) (Or.inl ⟨by kernel_rfl, by intro w hSw; (try dsimp only at hSw); go_simp; try with_reducible rfl⟩) (by assumption) ?_
        simp only [Act.put, List.setIfInBounds_toArray, List.set_cons_zero, List.set_cons_succ]
        refine wpAnyH_take (i := 5) (oi := ⟨some 36, _, _, _, _, _⟩) (v := _) rfl (by kernel_rfl) (by kernel_rfl) (by kernel_rfl) (fun _ _ _ h => h) (Or.inl ⟨by kernel_rfl, by intro w hSw; (try dsimp only at hSw); go_simp; try with_reducible rfl⟩) (by assumption) ?_
        simp only [Act.put, List.setIfInBounds_toArray, List.set_cons_zero, List.set_cons_succ]
        refine wpAnyH_take (i := 6) (oi := ⟨some 37, _, _, _, _, _⟩) (v := _) rfl (by kernel_rfl) (by kernel_rfl) (by kernel_rfl) (fun _ _ _ h => h) (Or.inl ⟨by kernel_rfl, by intro w hSw; (try dsimp only at hSw); go_simp; try with_reducible rfl⟩) (by assumption) ?_
        simp only [Act.put, List.setIfInBounds_toArray, List.set_cons_zero, List.set_cons_succ]
        refine wpAnyH_ready (rs := [8]) (by kernel_rfl) (by simp) ?_
        refine AllReadyH.cons (o := ⟨none, _, _, _, _, _⟩) rfl (fun K hK => ?_) AllReadyH.nil
        go_simp
        refine hK.out _ _ ?_ (fun hHeld2 => ?_)
        · (first | (try dsimp only); go_keep | (go_split_ands; refine ⟨?_, ?_, ?_, ?_, ?_, ?_, ?_, ?_, ?_, ?_, ?_, ?_, ?_, ?_, ?_⟩ <;> first | exact keepB bx5 (by assumption) | exact keepB bx4 (by assumption) | exact keepB bx3 (by assumption) | exact keepB bx2 (by assumption) | exact keepB bx1 (by assumption) | exact keepO bo5 (by first | (simp; done) | (simp; omega)) (by assumption) | exact keepO bo4 (by first | (simp; done) | (simp; omega)) (by assumption) | exact keepO bo3 (by first | (simp; done) | (simp; omega)) (by assumption) | exact keepO bo2 (by first | (simp; done) | (simp; omega)) (by assumption) | exact keepO bo1 (by first | (simp; done) | (simp; omega)) (by assumption) | exact keepW bg2 (by first | (simp; done) | (simp; omega)) (by assumption) | exact keepW bg1 (by first | (simp; done) | (simp; omega)) (by assumption) | assumption))
        clear hK K hHeld
        have hHeld := hHeld2
        clear hHeld2
        try simp only [Act.put, List.setIfInBounds_toArray, List.set_cons_zero, List.set_cons_succ]
        refine wpAnyH_take (i := 9) (oi := ⟨some 10, _, _, _, _, _⟩) (v := _) rfl (by kernel_rfl) (by kernel_rfl) (by kernel_rfl) (fun _ _ _ h => h) (Or.inl ⟨by kernel_rfl, by intro w hSw; (try dsimp only at hSw); go_simp; try with_reducible rfl⟩) (by assumption) ?_
        simp only [Act.put, List.setIfInBounds_toArray, List.set_cons_zero, List.set_cons_succ]
        refine wpAnyH_done (by kernel_rfl) ?_ _
      rotate_left 1
    rotate_left 2
    focus
      go_simp
      refine hK.out _ _ ?_ (fun hHeld2 => ?_)
      · (first | (try dsimp only); go_keep | (go_split_ands; refine ⟨?_, ?_, ?_, ?_, ?_, ?_, ?_, ?_, ?_, ?_, ?_, ?_, ?_, ?_, ?_⟩ <;> first | exact keepB bx5 (by assumption) | exact keepB bx4 (by assumption) | exact keepB bx3 (by assumption) | exact keepB bx2 (by assumption) | exact keepB bx1 (by assumption) | exact keepO bo5 (by first | (simp; done) | (simp; omega)) (by assumption) | exact keepO bo4 (by first | (simp; done) | (simp; omega)) (by assumption) | exact keepO bo3 (by first | (simp; done) | (simp; omega)) (by assumption) | exact keepO bo2 (by first | (simp; done) | (simp; omega)) (by assumption) | exact keepO bo1 (by first | (simp; done) | (simp; omega)) (by assumption) | exact keepW bg2 (by first | (simp; done) | (simp; omega)) (by assumption) | exact keepW bg1 (by first | (simp; done) | (simp; omega)) (by assumption) | assumption))
      clear hK K hHeld
      have hHeld := hHeld2
      clear hHeld2
      try simp only [Act.put, List.setIfInBounds_toArray, List.set_cons_zero, List.set_cons_succ]
      refine wpAnyH_ready (rs := [2]) (by kernel_rfl) (by simp) ?_
      refine AllReadyH.cons (o := ⟨some 34, _, _, _, _, _⟩) rfl (fun K hK => ?_) AllReadyH.nil
      go_simp
      go_at_call 36
      obtain ⟨wq, hwq⟩ : ∃ wq, wq = (y5.alloc (.cells #[.slice none 0 0, .int .i64 0, .int .i64 0, .int .i64 0] 25)).drew := ⟨_, rfl⟩
      have bq : Below y5.heap.size y5 wq := by rw [hwq]; exact ((Below.refl _ _).alloc (Nat.le_refl _) _).trans ((Qt.one _ 1).below _)
      have hqb : MB wq y5.heap.size (.slice none 0 0) 0 0 0 := by rw [hwq]; exact heap_alloc_new y5 _
      have hqa : y5.heap.size < wq.heap.size := hqb.lt
      have hne1 : ¬ y5.heap.size = w.heap.size := by omega
      have hne2 : ¬ y5.heap.size = w.heap.size + 1 := by omega
      have hne_0 : ¬ y5.heap.size = X8 := by omega
      obtain ⟨⟨d0, d1, d2, d3⟩, ⟨fd0, fd1, fd2, fd3⟩⟩ := hqb.cells
      rw [← hwq]
      clear hwq
      replace c00 := keepB bq c00; replace c01 := keepB bq c01; replace c02 := keepB bq c02; replace c03 := keepB bq c03; replace c10 := keepB bq c10; replace c11 := keepB bq c11; replace c12 := keepB bq c12; replace c13 := keepB bq c13; replace c14 := keepB bq c14; replace c15 := keepB bq c15; replace c16 := keepB bq c16; replace u0 := keepB bq u0; replace u1 := keepB bq u1; replace u2 := keepB bq u2; replace u3 := keepB bq u3
      have hb_ := bq
      refine (toEvent_any ek lb l r f t g wq).mono ?_
      rintro e x1 ⟨rfl, bx_⟩
      replace c00 := keepB bx_ c00; replace c01 := keepB bx_ c01; replace c02 := keepB bx_ c02; replace c03 := keepB bx_ c03; replace c10 := keepB bx_ c10; replace c11 := keepB bx_ c11; replace c12 := keepB bx_ c12; replace c13 := keepB bx_ c13; replace c14 := keepB bx_ c14; replace c15 := keepB bx_ c15; replace c16 := keepB bx_ c16; replace u0 := keepB bx_ u0; replace u1 := keepB bx_ u1; replace u2 := keepB bx_ u2; replace u3 := keepB bx_ u3
      replace d0 := keepB bx_ d0; replace d1 := keepB bx_ d1; replace d2 := keepB bx_ d2; replace d3 := keepB bx_ d3
      replace fd0 := keepF bx_ (by first | (simp; done) | (simp; omega)) fd0; replace fd1 := keepF bx_ (by first | (simp; done) | (simp; omega)) fd1; replace fd2 := keepF bx_ (by first | (simp; done) | (simp; omega)) fd2; replace fd3 := keepF bx_ (by first | (simp; done) | (simp; omega)) fd3
      have hqb9 := hqb.below bx_ (by omega)
      clear hqb
      have hqb := hqb9
      clear hqb9
      have hs_ := bx_.size
      have hb9 := hb_.trans (bx_.mono hb_.size)
      clear hb_
      have hb_ := hb9
      clear hb9
      clear bx_
      go_wp2_with fail
      refine hK.out _ _ ?_ (fun hHeld2 => ?_)
      · (first | (try dsimp only); go_keep | (go_split_ands; refine ⟨?_, ?_, ?_, ?_, ?_, ?_, ?_, ?_, ?_, ?_, ?_, ?_, ?_, ?_, ?_⟩ <;> first | exact keepB bx5 (by assumption) | exact keepB bx4 (by assumption) | exact keepB bx3 (by assumption) | exact keepB bx2 (by assumption) | exact keepB bx1 (by assumption) | exact keepO bo5 (by first | (simp; done) | (simp; omega)) (by assumption) | exact keepO bo4 (by first | (simp; done) | (simp; omega)) (by assumption) | exact keepO bo3 (by first | (simp; done) | (simp; omega)) (by assumption) | exact keepO bo2 (by first | (simp; done) | (simp; omega)) (by assumption) | exact keepO bo1 (by first | (simp; done) | (simp; omega)) (by assumption) | exact keepW bg2 (by first | (simp; done) | (simp; omega)) (by assumption) | exact keepW bg1 (by first | (simp; done) | (simp; omega)) (by assumption) | assumption))
      clear hK K hHeld
      have hHeld := hHeld2
      clear hHeld2
      try simp only [Act.put, List.setIfInBounds_toArray, List.set_cons_zero, List.set_cons_succ]
      refine wpAnyH_ready (rs := [3]) (by kernel_rfl) (by simp) ?_
      refine AllReadyH.cons (o := ⟨some 35, _, _, _, _, _⟩) rfl (fun K hK => ?_) AllReadyH.nil
      go_simp
      go_at_call 20
      
      refine (ApplyEvent_fix _ _ _ ⟨es, a, b, z⟩ ⟨ek, lb, l, r, f, t, g⟩ es5 a5 b5 z5 rs x1 (Ho5.out.below hb_ (by omega)).es (by have := hb_.size; omega) hin H64.out HM5.out Hrs.out).mono ?_
      rintro e x2 ⟨A5, c5, rfl, o3, bx_⟩
      replace c00 := keepB bx_ c00; replace c01 := keepB bx_ c01; replace c02 := keepB bx_ c02; replace c03 := keepB bx_ c03; replace c10 := keepB bx_ c10; replace c11 := keepB bx_ c11; replace c12 := keepB bx_ c12; replace c13 := keepB bx_ c13; replace c14 := keepB bx_ c14; replace c15 := keepB bx_ c15; replace c16 := keepB bx_ c16; replace u0 := keepB bx_ u0; replace u1 := keepB bx_ u1; replace u2 := keepB bx_ u2; replace u3 := keepB bx_ u3
      replace d0 := keepB bx_ d0; replace d1 := keepB bx_ d1; replace d2 := keepB bx_ d2; replace d3 := keepB bx_ d3
      replace fd0 := keepF bx_ (by first | (simp; done) | (simp; omega)) fd0; replace fd1 := keepF bx_ (by first | (simp; done) | (simp; omega)) fd1; replace fd2 := keepF bx_ (by first | (simp; done) | (simp; omega)) fd2; replace fd3 := keepF bx_ (by first | (simp; done) | (simp; omega)) fd3
      have hqb9 := hqb.below bx_ (by omega)
      clear hqb
      have hqb := hqb9
      clear hqb9
      have hs_ := bx_.size
      have hb9 := hb_.trans (bx_.mono hb_.size)
      clear hb_
      have hb_ := hb9
      clear hb9
      clear bx_
      go_wp2_with fail
      refine hK.out _ _ ?_ (fun hHeld2 => ?_)
      · (first | (try dsimp only); go_keep | (go_split_ands; refine ⟨?_, ?_, ?_, ?_, ?_, ?_, ?_, ?_, ?_, ?_, ?_, ?_, ?_, ?_, ?_⟩ <;> first | exact keepB bx5 (by assumption) | exact keepB bx4 (by assumption) | exact keepB bx3 (by assumption) | exact keepB bx2 (by assumption) | exact keepB bx1 (by assumption) | exact keepO bo5 (by first | (simp; done) | (simp; omega)) (by assumption) | exact keepO bo4 (by first | (simp; done) | (simp; omega)) (by assumption) | exact keepO bo3 (by first | (simp; done) | (simp; omega)) (by assumption) | exact keepO bo2 (by first | (simp; done) | (simp; omega)) (by assumption) | exact keepO bo1 (by first | (simp; done) | (simp; omega)) (by assumption) | exact keepW bg2 (by first | (simp; done) | (simp; omega)) (by assumption) | exact keepW bg1 (by first | (simp; done) | (simp; omega)) (by assumption) | assumption))
      clear hK K hHeld
      have hHeld := hHeld2
      clear hHeld2
      try simp only [Act.put, List.setIfInBounds_toArray, List.set_cons_zero, List.set_cons_succ]
      refine wpAnyH_take (i := 4) (oi := ⟨some 31, _, _, _, _, _⟩) (v := _) rfl (by kernel_rfl) (by kernel_rfl) (by kernel_rfl) (fun _ _ _ h => h) (Or.inl ⟨by kernel_rfl, by intro w hSw; (try dsimp only at hSw); go_simp; try with_reducible rfl⟩) (by assumption) ?_
      simp only [Act.put, List.setIfInBounds_toArray, List.set_cons_zero, List.set_cons_succ]
      refine wpAnyH_take (i := 5) (oi := ⟨some 36, _, _, _, _, _⟩) (v := _) rfl (by kernel_rfl) (by kernel_rfl) (by kernel_rfl) (fun _ _ _ h => h) (Or.inl ⟨by kernel_rfl, by intro w hSw; (try dsimp only at hSw); go_simp; try with_reducible rfl⟩) (by assumption) ?_
      simp only [Act.put, List.setIfInBounds_toArray, List.set_cons_zero, List.set_cons_succ]
      refine wpAnyH_take (i := 6) (oi := ⟨some 37, _, _, _, _, _⟩) (v := _) rfl (by kernel_rfl) (by kernel_rfl) (by kernel_rfl) (fun _ _ _ h => h) (Or.inl ⟨by kernel_rfl, by intro w hSw; (try dsimp only at hSw); go_simp; try with_reducible rfl⟩) (by assumption) ?_
      simp only [Act.put, List.setIfInBounds_toArray, List.set_cons_zero, List.set_cons_succ]
      refine wpAnyH_ready (rs := [8]) (by kernel_rfl) (by simp) ?_
      refine AllReadyH.cons (o := ⟨none, _, _, _, _, _⟩) rfl (fun K hK => ?_) AllReadyH.nil
      go_simp
      refine hK.out _ _ ?_ (fun hHeld2 => ?_)
      · (first | (try dsimp only); go_keep | (go_split_ands; refine ⟨?_, ?_, ?_, ?_, ?_, ?_, ?_, ?_, ?_, ?_, ?_, ?_, ?_, ?_, ?_⟩ <;> first | exact keepB bx5 (by assumption) | exact keepB bx4 (by assumption) | exact keepB bx3 (by assumption) | exact keepB bx2 (by assumption) | exact keepB bx1 (by assumption) | exact keepO bo5 (by first | (simp; done) | (simp; omega)) (by assumption) | exact keepO bo4 (by first | (simp; done) | (simp; omega)) (by assumption) | exact keepO bo3 (by first | (simp; done) | (simp; omega)) (by assumption) | exact keepO bo2 (by first | (simp; done) | (simp; omega)) (by assumption) | exact keepO bo1 (by first | (simp; done) | (simp; omega)) (by assumption) | exact keepW bg2 (by first | (simp; done) | (simp; omega)) (by assumption) | exact keepW bg1 (by first | (simp; done) | (simp; omega)) (by assumption) | assumption))
      clear hK K hHeld
      have hHeld := hHeld2
      clear hHeld2
      try simp only [Act.put, List.setIfInBounds_toArray, List.set_cons_zero, List.set_cons_succ]
      refine wpAnyH_take (i := 9) (oi := ⟨some 10, _, _, _, _, _⟩) (v := _) rfl (by kernel_rfl) (by kernel_rfl) (by kernel_rfl) (fun _ _ _ h => h) (Or.inl ⟨by kernel_rfl, by intro w hSw; (try dsimp only at hSw); go_simp; try with_reducible rfl⟩) (by assumption) ?_
      simp only [Act.put, List.setIfInBounds_toArray, List.set_cons_zero, List.set_cons_succ]
      refine wpAnyH_done (by kernel_rfl) ?_ _
    rotate_left 1
    focus
      obtain ⟨wz, hwz⟩ : ∃ wz, wz = x2.alloc (.cells #[.slice A5 es5.length c5, .int .i64 a5, .int .i64 b5, .int .i64 z5] 25) := ⟨_, rfl⟩
      have bz : Below x2.heap.size x2 wz := by rw [hwz]; exact (Below.refl _ _).alloc (Nat.le_refl _) _
      have hmz : MB wz x2.heap.size (.slice A5 es5.length c5) a5 b5 z5 := by rw [hwz]; exact heap_alloc_new x2 _
      have hbz := hb_.trans (bz.mono hb_.size)
      have hoz := o3.below bz (Nat.le_refl _)
      have hsz := bz.size
      have hsy := hb_.size
      obtain ⟨X9, hX9⟩ : ∃ X, X = x2.heap.size := ⟨_, rfl⟩
      rw [← hX9] at hmz
      rw [← hX9, ← hwz]
      exact hk X9 wz A5 c5 ⟨hbz, hmz, by omega, _, _, ⟨by omega, by omega, by omega⟩, hoz⟩
    focus
      obtain ⟨X9, hX9⟩ : ∃ X, X = x1.heap.size := ⟨_, rfl⟩
      obtain ⟨wz, hwz⟩ : ∃ wz, wz = (((x2.setCell ⟨x1.heap.size, 0, none⟩ (.slice A5 es5.length c5)).setCell ⟨x1.heap.size, 1, none⟩ (.int .i64 a5)).setCell ⟨x1.heap.size, 2, none⟩ (.int .i64 b5)).setCell ⟨x1.heap.size, 3, none⟩ (.int .i64 z5) := ⟨_, rfl⟩
      have hmz : MB wz x1.heap.size (.slice A5 es5.length c5) a5 b5 z5 := by rw [hwz]; exact (((hqb.set0 _).set1 _).set2 _).set3 _
      have hsy := hb_.size
      have hle9 : y5.heap.size ≤ x1.heap.size := by omega
      have hbz : Below y5.heap.size y5 wz := by rw [hwz]; exact (((hb_.setCell (p := ⟨_, _, _⟩) hle9 _).setCell (p := ⟨_, _, _⟩) hle9 _).setCell (p := ⟨_, _, _⟩) hle9 _).setCell (p := ⟨_, _, _⟩) hle9 _
      have hoz := o3.kept (w' := wz) (fun q hq _ => by rw [hwz]; simp only [World.setCell, Array.getElem?_modify, if_neg (show ¬ x1.heap.size = q by omega)])
      have hsz : wz.heap.size = x2.heap.size := by rw [hwz]; simp [World.setCell]
      rw [← hX9] at hmz
      rw [← hwz, ← hX9]
      exact hk X9 wz A5 c5 ⟨hbz, hmz, by omega, _, _, ⟨by omega, by omega, by omega⟩, hoz⟩
    focus
      obtain ⟨X9, hX9⟩ : ∃ X, X = y5.heap.size := ⟨_, rfl⟩
      obtain ⟨wz, hwz⟩ : ∃ wz, wz = (((x2.setCell ⟨y5.heap.size, 0, none⟩ (.slice A5 es5.length c5)).setCell ⟨y5.heap.size, 1, none⟩ (.int .i64 a5)).setCell ⟨y5.heap.size, 2, none⟩ (.int .i64 b5)).setCell ⟨y5.heap.size, 3, none⟩ (.int .i64 z5) := ⟨_, rfl⟩
      have hmz : MB wz y5.heap.size (.slice A5 es5.length c5) a5 b5 z5 := by rw [hwz]; exact (((hqb.set0 _).set1 _).set2 _).set3 _
      have hsy := hb_.size
      have hle9 : y5.heap.size ≤ y5.heap.size := by omega
      have hbz : Below y5.heap.size y5 wz := by rw [hwz]; exact (((hb_.setCell (p := ⟨_, _, _⟩) hle9 _).setCell (p := ⟨_, _, _⟩) hle9 _).setCell (p := ⟨_, _, _⟩) hle9 _).setCell (p := ⟨_, _, _⟩) hle9 _
      have hoz := o3.kept (w' := wz) (fun q hq _ => by rw [hwz]; simp only [World.setCell, Array.getElem?_modify, if_neg (show ¬ y5.heap.size = q by omega)])
      have hsz : wz.heap.size = x2.heap.size := by rw [hwz]; simp [World.setCell]
      rw [← hX9] at hmz
      rw [← hwz, ← hX9]
      exact hk X9 wz A5 c5 ⟨hbz, hmz, by omega, _, _, ⟨by omega, by omega, by omega⟩, hoz⟩

  obtain ⟨b6, hm6, hX95, lo9, hi9, ⟨hlo9, hhi9, hX9r⟩, ho6⟩ := hF
  have sb6 := b6.size
  have By6 := By5.trans (b6.mono hsy5)
  replace c00 := keepB b6 c00; replace c01 := keepB b6 c01; replace c02 := keepB b6 c02; replace c03 := keepB b6 c03; replace c10 := keepB b6 c10; replace c11 := keepB b6 c11; replace c12 := keepB b6 c12; replace c13 := keepB b6 c13; replace c14 := keepB b6 c14; replace c15 := keepB b6 c15; replace c16 := keepB b6 c16; replace t0 := keepB b6 t0; replace t1 := keepB b6 t1; replace t2 := keepB b6 t2; replace t3 := keepB b6 t3; replace u0 := keepB b6 u0; replace u1 := keepB b6 u1; replace u2 := keepB b6 u2; replace u3 := keepB b6 u3
  have he6 := he5.below b6 (by omega)
  have Ho6 := Lib.hid (Ho5.out.below b6 (by omega))
  obtain ⟨⟨g0, g1, g2, g3⟩, _⟩ := hm6.cells
  have hX9 := hm6.lt
  clear b6 hm6 he5 Ho5
  go_wp2_with fail
  refine (eqMill_same _ _ _ _ _ _ es5 a5 b5 z5 y6 ho6.es hhi9 he6 (by omega)).mono ?_
  rintro e y7 ⟨rfl, bx⟩
  have sb7 := bx.size
  have By7 := By6.trans (bx.mono (by omega))
  replace c00 := keepB bx c00; replace c01 := keepB bx c01; replace c02 := keepB bx c02; replace c03 := keepB bx c03; replace c10 := keepB bx c10; replace c11 := keepB bx c11; replace c12 := keepB bx c12; replace c13 := keepB bx c13; replace c14 := keepB bx c14; replace c15 := keepB bx c15; replace c16 := keepB bx c16; replace t0 := keepB bx t0; replace t1 := keepB bx t1; replace t2 := keepB bx t2; replace t3 := keepB bx t3; replace u0 := keepB bx u0; replace u1 := keepB bx u1; replace u2 := keepB bx u2; replace u3 := keepB bx u3; replace g0 := keepB bx g0; replace g1 := keepB bx g1; replace g2 := keepB bx g2; replace g3 := keepB bx g3
  have he7 := he6.below bx (by omega)
  have Ho7 := Lib.hid (Ho6.out.below bx (by omega))
  have Hg7 := Lib.hid (ho6.below bx hhi9)
  clear bx he6 Ho6 ho6
  go_wp2_with fail
  refine wp_region_held_drew (S := fun w' => w'.cell? ⟨w.heap.size, 0, none⟩ = some (.slice A es.length c) ∧ w'.cell? ⟨w.heap.size, 1, none⟩ = some (.int .i64 a) ∧ w'.cell? ⟨w.heap.size, 2, none⟩ = some (.int .i64 b) ∧ w'.cell? ⟨w.heap.size, 3, none⟩ = some (.int .i64 z) ∧ w'.cell? ⟨w.heap.size + 1, 0, none⟩ = some (.int .i64 ek) ∧ w'.cell? ⟨w.heap.size + 1, 1, none⟩ = some (.int .i64 lb) ∧ w'.cell? ⟨w.heap.size + 1, 2, none⟩ = some (.int .i64 l) ∧ w'.cell? ⟨w.heap.size + 1, 3, none⟩ = some (.int .i64 r) ∧ w'.cell? ⟨w.heap.size + 1, 4, none⟩ = some (.int .i64 f) ∧ w'.cell? ⟨w.heap.size + 1, 5, none⟩ = some (.int .i64 t) ∧ w'.cell? ⟨w.heap.size + 1, 6, none⟩ = some (.int .i64 g) ∧ w'.cell? ⟨X8, 0, none⟩ = some (.slice A4 es.length c4) ∧ w'.cell? ⟨X8, 1, none⟩ = some (.int .i64 a) ∧ w'.cell? ⟨X8, 2, none⟩ = some (.int .i64 b) ∧ w'.cell? ⟨X8, 3, none⟩ = some (.int .i64 z)) (by kernel_rfl) ?_ (fun hHeld => ?_)
  · (first | (try dsimp only); go_keep | (go_split_ands; refine ⟨?_, ?_, ?_, ?_, ?_, ?_, ?_, ?_, ?_, ?_, ?_, ?_, ?_, ?_, ?_⟩ <;> first | exact keepB bx5 (by assumption) | exact keepB bx4 (by assumption) | exact keepB bx3 (by assumption) | exact keepB bx2 (by assumption) | exact keepB bx1 (by assumption) | exact keepO bo5 (by first | (simp; done) | (simp; omega)) (by assumption) | exact keepO bo4 (by first | (simp; done) | (simp; omega)) (by assumption) | exact keepO bo3 (by first | (simp; done) | (simp; omega)) (by assumption) | exact keepO bo2 (by first | (simp; done) | (simp; omega)) (by assumption) | exact keepO bo1 (by first | (simp; done) | (simp; omega)) (by assumption) | exact keepW bg2 (by first | (simp; done) | (simp; omega)) (by assumption) | exact keepW bg1 (by first | (simp; done) | (simp; omega)) (by assumption) | assumption))
  refine wpAnyH_take (i := 0) (oi := ⟨some 47, _, _, _, _, _⟩) (v := _) rfl (by kernel_rfl) (by kernel_rfl) (by kernel_rfl) (fun _ _ _ h => h) (Or.inl ⟨by kernel_rfl, by intro w hSw; (try dsimp only at hSw); go_simp; try with_reducible rfl⟩) (by assumption) ?_
  simp only [Act.put, List.setIfInBounds_toArray, List.set_cons_zero, List.set_cons_succ]
  refine wpAnyH_take (i := 1) (oi := ⟨some 48, _, _, _, _, _⟩) (v := _) rfl (by kernel_rfl) (by kernel_rfl) (by kernel_rfl) (fun _ _ _ h => h) (Or.inl ⟨by kernel_rfl, by intro w hSw; (try dsimp only at hSw); go_simp; try with_reducible rfl⟩) (by assumption) ?_
  simp only [Act.put, List.setIfInBounds_toArray, List.set_cons_zero, List.set_cons_succ]
  refine wpAnyH_ready (rs := [2]) (by kernel_rfl) (by simp) ?_
  refine AllReadyH.cons (o := ⟨some 49, _, _, _, _, _⟩) rfl (fun K hK => ?_) AllReadyH.nil
  go_simp
  go_at_call 35
  refine (toMill_any 0 w.heap.size _ es a b z _ ((hes y7 By7).drewN 1) (by simp; omega) hl HSz.out).mono ?_
  rintro e y8 ⟨v8, rfl, o8, bx1⟩
  have by1 := of_drew bx1
  have s8 := by1.size
  obtain ⟨A8, c8, rfl, _⟩ := o8.form
  replace c00 := keepB by1 c00; replace c01 := keepB by1 c01; replace c02 := keepB by1 c02; replace c03 := keepB by1 c03; replace c10 := keepB by1 c10; replace c11 := keepB by1 c11; replace c12 := keepB by1 c12; replace c13 := keepB by1 c13; replace c14 := keepB by1 c14; replace c15 := keepB by1 c15; replace c16 := keepB by1 c16; replace u0 := keepB by1 u0; replace u1 := keepB by1 u1; replace u2 := keepB by1 u2; replace u3 := keepB by1 u3
  go_wp2_with fail
  refine hK.out _ _ ?_ (fun hHeld2 => ?_)
  · (first | (try dsimp only); go_keep | (go_split_ands; refine ⟨?_, ?_, ?_, ?_, ?_, ?_, ?_, ?_, ?_, ?_, ?_, ?_, ?_, ?_, ?_⟩ <;> first | exact keepB bx5 (by assumption) | exact keepB bx4 (by assumption) | exact keepB bx3 (by assumption) | exact keepB bx2 (by assumption) | exact keepB bx1 (by assumption) | exact keepO bo5 (by first | (simp; done) | (simp; omega)) (by assumption) | exact keepO bo4 (by first | (simp; done) | (simp; omega)) (by assumption) | exact keepO bo3 (by first | (simp; done) | (simp; omega)) (by assumption) | exact keepO bo2 (by first | (simp; done) | (simp; omega)) (by assumption) | exact keepO bo1 (by first | (simp; done) | (simp; omega)) (by assumption) | exact keepW bg2 (by first | (simp; done) | (simp; omega)) (by assumption) | exact keepW bg1 (by first | (simp; done) | (simp; omega)) (by assumption) | assumption))
  clear hK K hHeld
  have hHeld := hHeld2
  clear hHeld2
  try simp only [Act.put, List.setIfInBounds_toArray, List.set_cons_zero, List.set_cons_succ]
  refine wpAnyH_ready (rs := [3]) (by kernel_rfl) (by simp) ?_
  refine AllReadyH.cons (o := ⟨some 50, _, _, _, _, _⟩) rfl (fun K hK => ?_) AllReadyH.nil
  go_simp
  go_at_call 29
  refine (eqMill_same _ _ _ _ _ _ es a b z y8 (Ho7.out.below by1 (by omega)).es (by omega) o8.es (Nat.le_refl _)).mono ?_
  rintro e y9 ⟨rfl, bx2⟩
  replace c00 := keepB bx2 c00; replace c01 := keepB bx2 c01; replace c02 := keepB bx2 c02; replace c03 := keepB bx2 c03; replace c10 := keepB bx2 c10; replace c11 := keepB bx2 c11; replace c12 := keepB bx2 c12; replace c13 := keepB bx2 c13; replace c14 := keepB bx2 c14; replace c15 := keepB bx2 c15; replace c16 := keepB bx2 c16; replace u0 := keepB bx2 u0; replace u1 := keepB bx2 u1; replace u2 := keepB bx2 u2; replace u3 := keepB bx2 u3
  go_wp2_with fail
  refine hK.out _ _ ?_ (fun hHeld2 => ?_)
  · (first | (try dsimp only); go_keep | (go_split_ands; refine ⟨?_, ?_, ?_, ?_, ?_, ?_, ?_, ?_, ?_, ?_, ?_, ?_, ?_, ?_, ?_⟩ <;> first | exact keepB bx5 (by assumption) | exact keepB bx4 (by assumption) | exact keepB bx3 (by assumption) | exact keepB bx2 (by assumption) | exact keepB bx1 (by assumption) | exact keepO bo5 (by first | (simp; done) | (simp; omega)) (by assumption) | exact keepO bo4 (by first | (simp; done) | (simp; omega)) (by assumption) | exact keepO bo3 (by first | (simp; done) | (simp; omega)) (by assumption) | exact keepO bo2 (by first | (simp; done) | (simp; omega)) (by assumption) | exact keepO bo1 (by first | (simp; done) | (simp; omega)) (by assumption) | exact keepW bg2 (by first | (simp; done) | (simp; omega)) (by assumption) | exact keepW bg1 (by first | (simp; done) | (simp; omega)) (by assumption) | assumption))
  clear hK K hHeld
  have hHeld := hHeld2
  clear hHeld2
  try simp only [Act.put, List.setIfInBounds_toArray, List.set_cons_zero, List.set_cons_succ]
  refine wpAnyH_take (i := 4) (oi := ⟨some 51, _, _, _, _, _⟩) (v := _) rfl (by kernel_rfl) (by kernel_rfl) (by kernel_rfl) (fun _ _ _ h => h) (Or.inl ⟨by kernel_rfl, by intro w hSw; (try dsimp only at hSw); go_simp; try with_reducible rfl⟩) (by assumption) ?_
  simp only [Act.put, List.setIfInBounds_toArray, List.set_cons_zero, List.set_cons_succ]
  refine wpAnyH_done (by kernel_rfl) ?_ _
  have b79 := by1.trans (bx2.mono s8)
  have sb9 := b79.size
  have By9 := By7.trans (b79.mono (by omega))
  replace t0 := keepB b79 t0; replace t1 := keepB b79 t1; replace t2 := keepB b79 t2; replace t3 := keepB b79 t3; replace g0 := keepB b79 g0; replace g1 := keepB b79 g1; replace g2 := keepB b79 g2; replace g3 := keepB b79 g3
  have he9 := he7.below b79 (by omega)
  have Ho9 := Lib.hid (Ho7.out.below b79 (by omega))
  have Hg9 := Lib.hid (Hg7.out.below b79 (by omega))
  have hsy9 : w.heap.size ≤ y9.heap.size := By9.size
  have hwb : w.heap.size + 1 < y1.heap.size := hz
  clear by1 bx1 bx2 b79 he7 Ho7 Hg7 o8
  try clear hHeld
  go_wp2_with fail
  refine (markMill_any y3.heap.size y4.heap.size _ es a b z 1 y9 Ho9.out (by omega) HSz.out hl HOff.out).mono ?_
  rintro e y10 ⟨rfl, _, hkeep, ⟨hos, htp, hou⟩, sb10⟩
  have By10 : Below w.heap.size w y10 := By9.trans ⟨hos, htp, hou, sb10, fun q hq => hkeep q (by omega) (by omega)⟩
  replace c00 := cell_same (hkeep (w.heap.size) (World.block_lt_of_cell? y9 _ c00) (by omega)) c00; replace c01 := cell_same (hkeep (w.heap.size) (World.block_lt_of_cell? y9 _ c01) (by omega)) c01; replace c02 := cell_same (hkeep (w.heap.size) (World.block_lt_of_cell? y9 _ c02) (by omega)) c02; replace c03 := cell_same (hkeep (w.heap.size) (World.block_lt_of_cell? y9 _ c03) (by omega)) c03; replace c10 := cell_same (hkeep (w.heap.size + 1) (World.block_lt_of_cell? y9 _ c10) (by omega)) c10; replace c11 := cell_same (hkeep (w.heap.size + 1) (World.block_lt_of_cell? y9 _ c11) (by omega)) c11; replace c12 := cell_same (hkeep (w.heap.size + 1) (World.block_lt_of_cell? y9 _ c12) (by omega)) c12; replace c13 := cell_same (hkeep (w.heap.size + 1) (World.block_lt_of_cell? y9 _ c13) (by omega)) c13; replace c14 := cell_same (hkeep (w.heap.size + 1) (World.block_lt_of_cell? y9 _ c14) (by omega)) c14; replace c15 := cell_same (hkeep (w.heap.size + 1) (World.block_lt_of_cell? y9 _ c15) (by omega)) c15; replace c16 := cell_same (hkeep (w.heap.size + 1) (World.block_lt_of_cell? y9 _ c16) (by omega)) c16; replace t0 := cell_same (hkeep (X6) (World.block_lt_of_cell? y9 _ t0) (by omega)) t0; replace t1 := cell_same (hkeep (X6) (World.block_lt_of_cell? y9 _ t1) (by omega)) t1; replace t2 := cell_same (hkeep (X6) (World.block_lt_of_cell? y9 _ t2) (by omega)) t2; replace t3 := cell_same (hkeep (X6) (World.block_lt_of_cell? y9 _ t3) (by omega)) t3; replace u0 := cell_same (hkeep (X8) (World.block_lt_of_cell? y9 _ u0) (by omega)) u0; replace u1 := cell_same (hkeep (X8) (World.block_lt_of_cell? y9 _ u1) (by omega)) u1; replace u2 := cell_same (hkeep (X8) (World.block_lt_of_cell? y9 _ u2) (by omega)) u2; replace u3 := cell_same (hkeep (X8) (World.block_lt_of_cell? y9 _ u3) (by omega)) u3; replace g0 := cell_same (hkeep (X9) (World.block_lt_of_cell? y9 _ g0) (by omega)) g0; replace g1 := cell_same (hkeep (X9) (World.block_lt_of_cell? y9 _ g1) (by omega)) g1; replace g2 := cell_same (hkeep (X9) (World.block_lt_of_cell? y9 _ g2) (by omega)) g2; replace g3 := cell_same (hkeep (X9) (World.block_lt_of_cell? y9 _ g3) (by omega)) g3
  have he10 := he9.kept (w' := y10) fun q _ hq => hkeep q (by omega) (by omega)
  have Hg10 := Lib.hid (Hg9.out.kept (w' := y10) fun q hq hq2 => hkeep q (by omega) (by omega))
  obtain ⟨Kx, hKx⟩ : ∃ K : Nat, K = offE es 1 es.length := ⟨_, rfl⟩
  rw [← hKx]
  have hnk : ¬ (Kx : Int) < 0 := by omega
  clear hkeep he9 Hg9 Ho9 hKx hos htp hou
  go_wp2_with fail
  refine (eqMill_same _ _ _ _ _ _ es5 a5 b5 z5 y10 Hg10.out.es (by omega) he10 (by omega)).mono ?_
  rintro e y11 ⟨rfl, bx⟩
  have sb11 := bx.size
  have By11 := By10.trans (bx.mono (by omega))
  replace c00 := keepB bx c00; replace c01 := keepB bx c01; replace c02 := keepB bx c02; replace c03 := keepB bx c03; replace c10 := keepB bx c10; replace c11 := keepB bx c11; replace c12 := keepB bx c12; replace c13 := keepB bx c13; replace c14 := keepB bx c14; replace c15 := keepB bx c15; replace c16 := keepB bx c16; replace t0 := keepB bx t0; replace t1 := keepB bx t1; replace t2 := keepB bx t2; replace t3 := keepB bx t3; replace g0 := keepB bx g0; replace g1 := keepB bx g1; replace g2 := keepB bx g2; replace g3 := keepB bx g3
  have he11 := he10.below bx (by omega)
  have Hg11 := Lib.hid (Hg10.out.below bx (by omega))
  clear bx he10 Hg10 u0 u1 u2 u3
  have hl5 := HSm.out.1
  have HO5 := Lib.hid (small_off HSm.out.1 HSm.out.2)
  go_wp2_with fail
  refine (markMill_any lo9 hi9 _ es5 a5 b5 z5 1 y11 Hg11.out (by omega) (fun k hk => by have := HSm.out.2 k hk; omega) (by omega) (by have := HO5.out; omega)).mono ?_
  rintro e y12 ⟨rfl, og, hkeep, ⟨hos, htp, hou⟩, sb12⟩
  have By12 : Below w.heap.size w y12 := By11.trans ⟨hos, htp, hou, sb12, fun q hq => hkeep q (by omega) (by omega)⟩
  replace c00 := cell_same (hkeep (w.heap.size) (World.block_lt_of_cell? y11 _ c00) (by omega)) c00; replace c01 := cell_same (hkeep (w.heap.size) (World.block_lt_of_cell? y11 _ c01) (by omega)) c01; replace c02 := cell_same (hkeep (w.heap.size) (World.block_lt_of_cell? y11 _ c02) (by omega)) c02; replace c03 := cell_same (hkeep (w.heap.size) (World.block_lt_of_cell? y11 _ c03) (by omega)) c03; replace c10 := cell_same (hkeep (w.heap.size + 1) (World.block_lt_of_cell? y11 _ c10) (by omega)) c10; replace c11 := cell_same (hkeep (w.heap.size + 1) (World.block_lt_of_cell? y11 _ c11) (by omega)) c11; replace c12 := cell_same (hkeep (w.heap.size + 1) (World.block_lt_of_cell? y11 _ c12) (by omega)) c12; replace c13 := cell_same (hkeep (w.heap.size + 1) (World.block_lt_of_cell? y11 _ c13) (by omega)) c13; replace c14 := cell_same (hkeep (w.heap.size + 1) (World.block_lt_of_cell? y11 _ c14) (by omega)) c14; replace c15 := cell_same (hkeep (w.heap.size + 1) (World.block_lt_of_cell? y11 _ c15) (by omega)) c15; replace c16 := cell_same (hkeep (w.heap.size + 1) (World.block_lt_of_cell? y11 _ c16) (by omega)) c16; replace t0 := cell_same (hkeep (X6) (World.block_lt_of_cell? y11 _ t0) (by omega)) t0; replace t1 := cell_same (hkeep (X6) (World.block_lt_of_cell? y11 _ t1) (by omega)) t1; replace t2 := cell_same (hkeep (X6) (World.block_lt_of_cell? y11 _ t2) (by omega)) t2; replace t3 := cell_same (hkeep (X6) (World.block_lt_of_cell? y11 _ t3) (by omega)) t3; replace g0 := cell_same (hkeep (X9) (World.block_lt_of_cell? y11 _ g0) (by omega)) g0; replace g1 := cell_same (hkeep (X9) (World.block_lt_of_cell? y11 _ g1) (by omega)) g1; replace g2 := cell_same (hkeep (X9) (World.block_lt_of_cell? y11 _ g2) (by omega)) g2; replace g3 := cell_same (hkeep (X9) (World.block_lt_of_cell? y11 _ g3) (by omega)) g3
  have he12 := he11.kept (w' := y12) fun q _ hq => hkeep q (by omega) (by omega)
  have Hg12 := Lib.hid og
  obtain ⟨Kg, hKg⟩ : ∃ K : Nat, K = offE es5 1 es5.length := ⟨_, rfl⟩
  rw [← hKg]
  have HKg := Lib.hid hKg
  have hnk2 : ¬ (Kg : Int) < 0 := by omega
  have hkk : ((Kg : Int) != (Kg : Int)) = false := bne_f rfl
  clear hkeep he11 Hg11 og hKg hos htp hou
  go_wp2_with fail
  refine (heldMill_any lo9 hi9 _ es5 a5 b5 z5 1 y12 Hg12.out.es (by omega) HSm.out.2 (by omega) HO5.out).mono ?_
  rw [← HKg.out]
  rintro e y13 ⟨rfl, bx⟩
  have sb13 := bx.size
  have By13 := By12.trans (bx.mono (by omega))
  replace c00 := keepB bx c00; replace c01 := keepB bx c01; replace c02 := keepB bx c02; replace c03 := keepB bx c03; replace c10 := keepB bx c10; replace c11 := keepB bx c11; replace c12 := keepB bx c12; replace c13 := keepB bx c13; replace c14 := keepB bx c14; replace c15 := keepB bx c15; replace c16 := keepB bx c16; replace t0 := keepB bx t0; replace t1 := keepB bx t1; replace t2 := keepB bx t2; replace t3 := keepB bx t3; replace g0 := keepB bx g0; replace g1 := keepB bx g1; replace g2 := keepB bx g2; replace g3 := keepB bx g3
  have he13 := he12.below bx (by omega)
  have Hg13 := Lib.hid (Hg12.out.below bx (by omega))
  have hsy13 : w.heap.size ≤ y13.heap.size := By13.size
  clear bx he12 Hg12
  go_wp2_with fail
  have hw13 : w.heap.size + 1 < y13.heap.size := World.block_lt_of_cell? y13 _ c10
  have h313 : y3.heap.size ≤ y13.heap.size := by omega
  have hhi13 : hi9 ≤ y13.heap.size := by omega
  clear sb3 sb4 sb5 sb6 sb7 s8 sb9 sb10 sb11 sb12 sb13 hlo9 hhi9 hX9r hX95 hX3 h48 h84 hX9 hsy2 hsy5 hsy9 hwb s2 hz
  try clear zu
  try clear hnk
  refine' merge6 (F := fun X w' Ax cx AE cE => Below y13.heap.size y13 w' ∧ MB w' X (.slice AE es5.length cE) a5 b5 z5 ∧ OwnE w' y13.heap.size w'.heap.size 35 82 38 (.slice AE es5.length cE) es5) (fun hk => ?_) (fun X14 y14 Ax cx AE cE hF => ?_)
  rotate_left 1
  ·
    refine wp_region_held_drew (S := fun w' => w'.cell? ⟨w.heap.size, 0, none⟩ = some (.slice A es.length c) ∧ w'.cell? ⟨w.heap.size, 1, none⟩ = some (.int .i64 a) ∧ w'.cell? ⟨w.heap.size, 2, none⟩ = some (.int .i64 b) ∧ w'.cell? ⟨w.heap.size, 3, none⟩ = some (.int .i64 z) ∧ w'.cell? ⟨w.heap.size + 1, 0, none⟩ = some (.int .i64 ek) ∧ w'.cell? ⟨w.heap.size + 1, 1, none⟩ = some (.int .i64 lb) ∧ w'.cell? ⟨w.heap.size + 1, 2, none⟩ = some (.int .i64 l) ∧ w'.cell? ⟨w.heap.size + 1, 3, none⟩ = some (.int .i64 r) ∧ w'.cell? ⟨w.heap.size + 1, 4, none⟩ = some (.int .i64 f) ∧ w'.cell? ⟨w.heap.size + 1, 5, none⟩ = some (.int .i64 t) ∧ w'.cell? ⟨w.heap.size + 1, 6, none⟩ = some (.int .i64 g)) (by kernel_rfl) ?_ (fun hHeld => ?_)
    · (first | (try dsimp only); go_keep | (go_split_ands; refine ⟨?_, ?_, ?_, ?_, ?_, ?_, ?_, ?_, ?_, ?_, ?_⟩ <;> first | exact keepB bx5 (by assumption) | exact keepB bx4 (by assumption) | exact keepB bx3 (by assumption) | exact keepB bx2 (by assumption) | exact keepB bx1 (by assumption) | exact keepO bo5 (by first | (simp; done) | (simp; omega)) (by assumption) | exact keepO bo4 (by first | (simp; done) | (simp; omega)) (by assumption) | exact keepO bo3 (by first | (simp; done) | (simp; omega)) (by assumption) | exact keepO bo2 (by first | (simp; done) | (simp; omega)) (by assumption) | exact keepO bo1 (by first | (simp; done) | (simp; omega)) (by assumption) | exact keepW bg2 (by first | (simp; done) | (simp; omega)) (by assumption) | exact keepW bg1 (by first | (simp; done) | (simp; omega)) (by assumption) | assumption))
    refine wpAnyH_take (i := 0) (oi := ⟨some 80, _, _, _, _, _⟩) (v := _) rfl (by kernel_rfl) (by kernel_rfl) (by kernel_rfl) (fun _ _ _ h => h) (Or.inl ⟨by kernel_rfl, by intro w hSw; (try dsimp only at hSw); go_simp; try with_reducible rfl⟩) (by assumption) ?_
    simp only [Act.put, List.setIfInBounds_toArray, List.set_cons_zero, List.set_cons_succ]
    refine wpAnyH_take (i := 2) (oi := ⟨some 82, _, _, _, _, _⟩) (v := _) rfl (by kernel_rfl) (by kernel_rfl) (by kernel_rfl) (fun _ _ _ h => h) (Or.inl ⟨by kernel_rfl, by intro w hSw; (try dsimp only at hSw); go_simp; try with_reducible rfl⟩) (by assumption) ?_
    simp only [Act.put, List.setIfInBounds_toArray, List.set_cons_zero, List.set_cons_succ]
    refine wpAnyH_ready (rs := [1, 8]) (by kernel_rfl) (by simp) (AllReadyH.cons (o := ⟨some 81, _, _, _, _, _⟩) rfl (fun K hK => ?_) (AllReadyH.cons (o := ⟨some 14, _, _, _, _, _⟩) rfl (fun K hK => ?_) (AllReadyH.nil)))
    focus
      go_simp
      go_at_call 35
      obtain ⟨wq, hwq⟩ : ∃ wq, wq = y13.drew := ⟨_, rfl⟩
      have bq : Below y13.heap.size y13 wq := by rw [hwq]; exact (Qt.one _ 1).below _
      have hsq := bq.size
      rw [← hwq]
      clear hwq
      replace c00 := keepB bq c00; replace c01 := keepB bq c01; replace c02 := keepB bq c02; replace c03 := keepB bq c03; replace c10 := keepB bq c10; replace c11 := keepB bq c11; replace c12 := keepB bq c12; replace c13 := keepB bq c13; replace c14 := keepB bq c14; replace c15 := keepB bq c15; replace c16 := keepB bq c16
      have hb_ := bq
      refine (toMill_any 0 w.heap.size _ es a b z wq (hes wq (By13.trans (hb_.mono hsy13))) (by have := hb_.size; omega) hl HSz.out).mono ?_
      rintro e x1 ⟨vx, rfl, ox, bx_⟩
      obtain ⟨Ax, cx, rfl, _⟩ := ox.form
      replace c00 := keepB bx_ c00; replace c01 := keepB bx_ c01; replace c02 := keepB bx_ c02; replace c03 := keepB bx_ c03; replace c10 := keepB bx_ c10; replace c11 := keepB bx_ c11; replace c12 := keepB bx_ c12; replace c13 := keepB bx_ c13; replace c14 := keepB bx_ c14; replace c15 := keepB bx_ c15; replace c16 := keepB bx_ c16
      have hs_ := bx_.size
      have hb9 := hb_.trans (bx_.mono hb_.size)
      clear hb_
      have hb_ := hb9
      clear hb9
      clear bx_
      go_wp2_with fail
      refine hK.out _ _ ?_ (fun hHeld2 => ?_)
      · (first | (try dsimp only); go_keep | (go_split_ands; refine ⟨?_, ?_, ?_, ?_, ?_, ?_, ?_, ?_, ?_, ?_, ?_⟩ <;> first | exact keepB bx5 (by assumption) | exact keepB bx4 (by assumption) | exact keepB bx3 (by assumption) | exact keepB bx2 (by assumption) | exact keepB bx1 (by assumption) | exact keepO bo5 (by first | (simp; done) | (simp; omega)) (by assumption) | exact keepO bo4 (by first | (simp; done) | (simp; omega)) (by assumption) | exact keepO bo3 (by first | (simp; done) | (simp; omega)) (by assumption) | exact keepO bo2 (by first | (simp; done) | (simp; omega)) (by assumption) | exact keepO bo1 (by first | (simp; done) | (simp; omega)) (by assumption) | exact keepW bg2 (by first | (simp; done) | (simp; omega)) (by assumption) | exact keepW bg1 (by first | (simp; done) | (simp; omega)) (by assumption) | assumption))
      clear hK K hHeld
      have hHeld := hHeld2
      clear hHeld2
      try simp only [Act.put, List.setIfInBounds_toArray, List.set_cons_zero, List.set_cons_succ]
      refine wpAnyH_ready (rs := [3, 8]) (by kernel_rfl) (by simp) (AllReadyH.cons (o := ⟨some 83, _, _, _, _, _⟩) rfl (fun K hK => ?_) (AllReadyH.cons (o := ⟨some 14, _, _, _, _, _⟩) rfl (fun K hK => ?_) (AllReadyH.nil)))
      focus
        go_simp
        go_at_call 36
        
        refine (toEvent_any ek lb l r f t g x1).mono ?_
        rintro e x2 ⟨rfl, bx_⟩
        replace c00 := keepB bx_ c00; replace c01 := keepB bx_ c01; replace c02 := keepB bx_ c02; replace c03 := keepB bx_ c03; replace c10 := keepB bx_ c10; replace c11 := keepB bx_ c11; replace c12 := keepB bx_ c12; replace c13 := keepB bx_ c13; replace c14 := keepB bx_ c14; replace c15 := keepB bx_ c15; replace c16 := keepB bx_ c16
        have hs_ := bx_.size
        have hb9 := hb_.trans (bx_.mono hb_.size)
        clear hb_
        have hb_ := hb9
        clear hb9
        have ox9 := ox.below bx_ (by first | exact Nat.le_refl _ | omega)
        clear ox
        have ox := ox9
        clear ox9
        clear bx_
        go_wp2_with fail
        refine hK.out _ _ ?_ (fun hHeld2 => ?_)
        · (first | (try dsimp only); go_keep | (go_split_ands; refine ⟨?_, ?_, ?_, ?_, ?_, ?_, ?_, ?_, ?_, ?_, ?_⟩ <;> first | exact keepB bx5 (by assumption) | exact keepB bx4 (by assumption) | exact keepB bx3 (by assumption) | exact keepB bx2 (by assumption) | exact keepB bx1 (by assumption) | exact keepO bo5 (by first | (simp; done) | (simp; omega)) (by assumption) | exact keepO bo4 (by first | (simp; done) | (simp; omega)) (by assumption) | exact keepO bo3 (by first | (simp; done) | (simp; omega)) (by assumption) | exact keepO bo2 (by first | (simp; done) | (simp; omega)) (by assumption) | exact keepO bo1 (by first | (simp; done) | (simp; omega)) (by assumption) | exact keepW bg2 (by first | (simp; done) | (simp; omega)) (by assumption) | exact keepW bg1 (by first | (simp; done) | (simp; omega)) (by assumption) | assumption))
        clear hK K hHeld
        have hHeld := hHeld2
        clear hHeld2
        try simp only [Act.put, List.setIfInBounds_toArray, List.set_cons_zero, List.set_cons_succ]
        refine wpAnyH_ready (rs := [4, 8]) (by kernel_rfl) (by simp) (AllReadyH.cons (o := ⟨some 84, _, _, _, _, _⟩) rfl (fun K hK => ?_) (AllReadyH.cons (o := ⟨some 14, _, _, _, _, _⟩) rfl (fun K hK => ?_) (AllReadyH.nil)))
        focus
          go_simp
          go_at_call 20
          
          refine (ApplyEvent_fix _ _ _ ⟨es, a, b, z⟩ ⟨ek, lb, l, r, f, t, g⟩ es5 a5 b5 z5 rs x2 ox.es (by omega) hin H64.out HM5.out Hrs.out).mono ?_
          rintro e x3 ⟨AE, cE, rfl, o3, bx_⟩
          replace c00 := keepB bx_ c00; replace c01 := keepB bx_ c01; replace c02 := keepB bx_ c02; replace c03 := keepB bx_ c03; replace c10 := keepB bx_ c10; replace c11 := keepB bx_ c11; replace c12 := keepB bx_ c12; replace c13 := keepB bx_ c13; replace c14 := keepB bx_ c14; replace c15 := keepB bx_ c15; replace c16 := keepB bx_ c16
          have hs_ := bx_.size
          have hb9 := hb_.trans (bx_.mono hb_.size)
          clear hb_
          have hb_ := hb9
          clear hb9
          have ox9 := ox.below bx_ (by first | exact Nat.le_refl _ | omega)
          clear ox
          have ox := ox9
          clear ox9
          clear bx_
          go_wp2_with fail
          refine hK.out _ _ ?_ (fun hHeld2 => ?_)
          · (first | (try dsimp only); go_keep | (go_split_ands; refine ⟨?_, ?_, ?_, ?_, ?_, ?_, ?_, ?_, ?_, ?_, ?_⟩ <;> first | exact keepB bx5 (by assumption) | exact keepB bx4 (by assumption) | exact keepB bx3 (by assumption) | exact keepB bx2 (by assumption) | exact keepB bx1 (by assumption) | exact keepO bo5 (by first | (simp; done) | (simp; omega)) (by assumption) | exact keepO bo4 (by first | (simp; done) | (simp; omega)) (by assumption) | exact keepO bo3 (by first | (simp; done) | (simp; omega)) (by assumption) | exact keepO bo2 (by first | (simp; done) | (simp; omega)) (by assumption) | exact keepO bo1 (by first | (simp; done) | (simp; omega)) (by assumption) | exact keepW bg2 (by first | (simp; done) | (simp; omega)) (by assumption) | exact keepW bg1 (by first | (simp; done) | (simp; omega)) (by assumption) | assumption))
          clear hK K hHeld
          have hHeld := hHeld2
          clear hHeld2
          try simp only [Act.put, List.setIfInBounds_toArray, List.set_cons_zero, List.set_cons_succ]
          refine wpAnyH_take (i := 5) (oi := ⟨some 79, _, _, _, _, _⟩) (v := _) rfl (by kernel_rfl) (by kernel_rfl) (by kernel_rfl) (fun _ _ _ h => h) (Or.inl ⟨by kernel_rfl, by intro w hSw; (try dsimp only at hSw); go_simp; try with_reducible rfl⟩) (by assumption) ?_
          simp only [Act.put, List.setIfInBounds_toArray, List.set_cons_zero, List.set_cons_succ]
          refine wpAnyH_take (i := 6) (oi := ⟨some 85, _, _, _, _, _⟩) (v := _) rfl (by kernel_rfl) (by kernel_rfl) (by kernel_rfl) (fun _ _ _ h => h) (Or.inl ⟨by kernel_rfl, by intro w hSw; (try dsimp only at hSw); go_simp; try with_reducible rfl⟩) (by assumption) ?_
          simp only [Act.put, List.setIfInBounds_toArray, List.set_cons_zero, List.set_cons_succ]
          refine wpAnyH_take (i := 7) (oi := ⟨some 86, _, _, _, _, _⟩) (v := _) rfl (by kernel_rfl) (by kernel_rfl) (by kernel_rfl) (fun _ _ _ h => h) (Or.inl ⟨by kernel_rfl, by intro w hSw; (try dsimp only at hSw); go_simp; try with_reducible rfl⟩) (by assumption) ?_
          simp only [Act.put, List.setIfInBounds_toArray, List.set_cons_zero, List.set_cons_succ]
          refine wpAnyH_ready (rs := [8]) (by kernel_rfl) (by simp) ?_
          refine AllReadyH.cons (o := ⟨some 14, _, _, _, _, _⟩) rfl (fun K hK => ?_) AllReadyH.nil
          go_simp
          refine hK.out _ _ ?_ (fun hHeld2 => ?_)
          · (first | (try dsimp only); go_keep | (go_split_ands; refine ⟨?_, ?_, ?_, ?_, ?_, ?_, ?_, ?_, ?_, ?_, ?_⟩ <;> first | exact keepB bx5 (by assumption) | exact keepB bx4 (by assumption) | exact keepB bx3 (by assumption) | exact keepB bx2 (by assumption) | exact keepB bx1 (by assumption) | exact keepO bo5 (by first | (simp; done) | (simp; omega)) (by assumption) | exact keepO bo4 (by first | (simp; done) | (simp; omega)) (by assumption) | exact keepO bo3 (by first | (simp; done) | (simp; omega)) (by assumption) | exact keepO bo2 (by first | (simp; done) | (simp; omega)) (by assumption) | exact keepO bo1 (by first | (simp; done) | (simp; omega)) (by assumption) | exact keepW bg2 (by first | (simp; done) | (simp; omega)) (by assumption) | exact keepW bg1 (by first | (simp; done) | (simp; omega)) (by assumption) | assumption))
          clear hK K hHeld
          have hHeld := hHeld2
          clear hHeld2
          try simp only [Act.put, List.setIfInBounds_toArray, List.set_cons_zero, List.set_cons_succ]
          refine wpAnyH_ready (rs := [9]) (by kernel_rfl) (by simp) ?_
          refine AllReadyH.cons (o := ⟨none, _, _, _, _, _⟩) rfl (fun K hK => ?_) AllReadyH.nil
          go_simp
          refine hK.out _ _ ?_ (fun hHeld2 => ?_)
          · (first | (try dsimp only); go_keep | (go_split_ands; refine ⟨?_, ?_, ?_, ?_, ?_, ?_, ?_, ?_, ?_, ?_, ?_⟩ <;> first | exact keepB bx5 (by assumption) | exact keepB bx4 (by assumption) | exact keepB bx3 (by assumption) | exact keepB bx2 (by assumption) | exact keepB bx1 (by assumption) | exact keepO bo5 (by first | (simp; done) | (simp; omega)) (by assumption) | exact keepO bo4 (by first | (simp; done) | (simp; omega)) (by assumption) | exact keepO bo3 (by first | (simp; done) | (simp; omega)) (by assumption) | exact keepO bo2 (by first | (simp; done) | (simp; omega)) (by assumption) | exact keepO bo1 (by first | (simp; done) | (simp; omega)) (by assumption) | exact keepW bg2 (by first | (simp; done) | (simp; omega)) (by assumption) | exact keepW bg1 (by first | (simp; done) | (simp; omega)) (by assumption) | assumption))
          clear hK K hHeld
          have hHeld := hHeld2
          clear hHeld2
          try simp only [Act.put, List.setIfInBounds_toArray, List.set_cons_zero, List.set_cons_succ]
          refine wpAnyH_take (i := 10) (oi := ⟨some 15, _, _, _, _, _⟩) (v := _) rfl (by kernel_rfl) (by kernel_rfl) (by kernel_rfl) (fun _ _ _ h => h) (Or.inl ⟨by kernel_rfl, by intro w hSw; (try dsimp only at hSw); go_simp; try with_reducible rfl⟩) (by assumption) ?_
          simp only [Act.put, List.setIfInBounds_toArray, List.set_cons_zero, List.set_cons_succ]
          refine wpAnyH_done (by kernel_rfl) ?_ _
        rotate_left 1
        focus
          go_simp
          refine hK.out _ _ ?_ (fun hHeld2 => ?_)
          · (first | (try dsimp only); go_keep | (go_split_ands; refine ⟨?_, ?_, ?_, ?_, ?_, ?_, ?_, ?_, ?_, ?_, ?_⟩ <;> first | exact keepB bx5 (by assumption) | exact keepB bx4 (by assumption) | exact keepB bx3 (by assumption) | exact keepB bx2 (by assumption) | exact keepB bx1 (by assumption) | exact keepO bo5 (by first | (simp; done) | (simp; omega)) (by assumption) | exact keepO bo4 (by first | (simp; done) | (simp; omega)) (by assumption) | exact keepO bo3 (by first | (simp; done) | (simp; omega)) (by assumption) | exact keepO bo2 (by first | (simp; done) | (simp; omega)) (by assumption) | exact keepO bo1 (by first | (simp; done) | (simp; omega)) (by assumption) | exact keepW bg2 (by first | (simp; done) | (simp; omega)) (by assumption) | exact keepW bg1 (by first | (simp; done) | (simp; omega)) (by assumption) | assumption))
          clear hK K hHeld
          have hHeld := hHeld2
          clear hHeld2
          try simp only [Act.put, List.setIfInBounds_toArray, List.set_cons_zero, List.set_cons_succ]
          refine wpAnyH_ready (rs := [4]) (by kernel_rfl) (by simp) ?_
          refine AllReadyH.cons (o := ⟨some 84, _, _, _, _, _⟩) rfl (fun K hK => ?_) AllReadyH.nil
          go_simp
          go_at_call 20
          obtain ⟨wq2, hwq⟩ : ∃ wq2, wq2 = x2.alloc (.cells #[.slice none 0 0, .int .i64 0, .int .i64 0, .int .i64 0] 25) := ⟨_, rfl⟩
          have bq : Below x2.heap.size x2 wq2 := by rw [hwq]; exact (Below.refl _ _).alloc (Nat.le_refl _) _
          have hqb : MB wq2 x2.heap.size (.slice none 0 0) 0 0 0 := by rw [hwq]; exact heap_alloc_new x2 _
          have hqa : x2.heap.size < wq2.heap.size := hqb.lt
          have hsy9 := hb_.size
          have hne1 : ¬ x2.heap.size = w.heap.size := by omega
          have hne2 : ¬ x2.heap.size = w.heap.size + 1 := by omega
          obtain ⟨⟨d0, d1, d2, d3⟩, ⟨fd0, fd1, fd2, fd3⟩⟩ := hqb.cells
          rw [← hwq]
          clear hwq
          replace c00 := keepB bq c00; replace c01 := keepB bq c01; replace c02 := keepB bq c02; replace c03 := keepB bq c03; replace c10 := keepB bq c10; replace c11 := keepB bq c11; replace c12 := keepB bq c12; replace c13 := keepB bq c13; replace c14 := keepB bq c14; replace c15 := keepB bq c15; replace c16 := keepB bq c16
          have hb9 := hb_.trans (bq.mono hb_.size)
          clear hb_
          have hb_ := hb9
          clear hb9
          have ox9 := ox.below bq (by first | exact Nat.le_refl _ | omega)
          clear ox
          have ox := ox9
          clear ox9
          refine (ApplyEvent_fix _ _ _ ⟨es, a, b, z⟩ ⟨ek, lb, l, r, f, t, g⟩ es5 a5 b5 z5 rs wq2 ox.es (by omega) hin H64.out HM5.out Hrs.out).mono ?_
          rintro e x3 ⟨AE, cE, rfl, o3, bx_⟩
          replace c00 := keepB bx_ c00; replace c01 := keepB bx_ c01; replace c02 := keepB bx_ c02; replace c03 := keepB bx_ c03; replace c10 := keepB bx_ c10; replace c11 := keepB bx_ c11; replace c12 := keepB bx_ c12; replace c13 := keepB bx_ c13; replace c14 := keepB bx_ c14; replace c15 := keepB bx_ c15; replace c16 := keepB bx_ c16
          replace d0 := keepB bx_ d0; replace d1 := keepB bx_ d1; replace d2 := keepB bx_ d2; replace d3 := keepB bx_ d3
          replace fd0 := keepF bx_ (by first | (simp; done) | (simp; omega)) fd0; replace fd1 := keepF bx_ (by first | (simp; done) | (simp; omega)) fd1; replace fd2 := keepF bx_ (by first | (simp; done) | (simp; omega)) fd2; replace fd3 := keepF bx_ (by first | (simp; done) | (simp; omega)) fd3
          have hqb9 := hqb.below bx_ (by omega)
          clear hqb
          have hqb := hqb9
          clear hqb9
          have hs_ := bx_.size
          have hb9 := hb_.trans (bx_.mono hb_.size)
          clear hb_
          have hb_ := hb9
          clear hb9
          have ox9 := ox.below bx_ (by first | exact Nat.le_refl _ | omega)
          clear ox
          have ox := ox9
          clear ox9
          clear bx_
          go_wp2_with fail
          refine hK.out _ _ ?_ (fun hHeld2 => ?_)
          · (first | (try dsimp only); go_keep | (go_split_ands; refine ⟨?_, ?_, ?_, ?_, ?_, ?_, ?_, ?_, ?_, ?_, ?_⟩ <;> first | exact keepB bx5 (by assumption) | exact keepB bx4 (by assumption) | exact keepB bx3 (by assumption) | exact keepB bx2 (by assumption) | exact keepB bx1 (by assumption) | exact keepO bo5 (by first | (simp; done) | (simp; omega)) (by assumption) | exact keepO bo4 (by first | (simp; done) | (simp; omega)) (by assumption) | exact keepO bo3 (by first | (simp; done) | (simp; omega)) (by assumption) | exact keepO bo2 (by first | (simp; done) | (simp; omega)) (by assumption) | exact keepO bo1 (by first | (simp; done) | (simp; omega)) (by assumption) | exact keepW bg2 (by first | (simp; done) | (simp; omega)) (by assumption) | exact keepW bg1 (by first | (simp; done) | (simp; omega)) (by assumption) | assumption))
          clear hK K hHeld
          have hHeld := hHeld2
          clear hHeld2
          try simp only [Act.put, List.setIfInBounds_toArray, List.set_cons_zero, List.set_cons_succ]
          refine wpAnyH_take (i := 5) (oi := ⟨some 79, _, _, _, _, _⟩) (v := _) rfl (by kernel_rfl) (by kernel_rfl) (by kernel_rfl) (fun _ _ _ h => h) (Or.inl ⟨by kernel_rfl, by intro w hSw; (try dsimp only at hSw); go_simp; try with_reducible rfl⟩) (by assumption) ?_
          simp only [Act.put, List.setIfInBounds_toArray, List.set_cons_zero, List.set_cons_succ]
          refine wpAnyH_take (i := 6) (oi := ⟨some 85, _, _, _, _, _⟩) (v := _) rfl (by kernel_rfl) (by kernel_rfl) (by kernel_rfl) (fun _ _ _ h => h) (Or.inl ⟨by kernel_rfl, by intro w hSw; (try dsimp only at hSw); go_simp; try with_reducible rfl⟩) (by assumption) ?_
          simp only [Act.put, List.setIfInBounds_toArray, List.set_cons_zero, List.set_cons_succ]
          refine wpAnyH_take (i := 7) (oi := ⟨some 86, _, _, _, _, _⟩) (v := _) rfl (by kernel_rfl) (by kernel_rfl) (by kernel_rfl) (fun _ _ _ h => h) (Or.inl ⟨by kernel_rfl, by intro w hSw; (try dsimp only at hSw); go_simp; try with_reducible rfl⟩) (by assumption) ?_
          simp only [Act.put, List.setIfInBounds_toArray, List.set_cons_zero, List.set_cons_succ]
          refine wpAnyH_ready (rs := [9]) (by kernel_rfl) (by simp) ?_
          refine AllReadyH.cons (o := ⟨none, _, _, _, _, _⟩) rfl (fun K hK => ?_) AllReadyH.nil
          go_simp
          refine hK.out _ _ ?_ (fun hHeld2 => ?_)
          · (first | (try dsimp only); go_keep | (go_split_ands; refine ⟨?_, ?_, ?_, ?_, ?_, ?_, ?_, ?_, ?_, ?_, ?_⟩ <;> first | exact keepB bx5 (by assumption) | exact keepB bx4 (by assumption) | exact keepB bx3 (by assumption) | exact keepB bx2 (by assumption) | exact keepB bx1 (by assumption) | exact keepO bo5 (by first | (simp; done) | (simp; omega)) (by assumption) | exact keepO bo4 (by first | (simp; done) | (simp; omega)) (by assumption) | exact keepO bo3 (by first | (simp; done) | (simp; omega)) (by assumption) | exact keepO bo2 (by first | (simp; done) | (simp; omega)) (by assumption) | exact keepO bo1 (by first | (simp; done) | (simp; omega)) (by assumption) | exact keepW bg2 (by first | (simp; done) | (simp; omega)) (by assumption) | exact keepW bg1 (by first | (simp; done) | (simp; omega)) (by assumption) | assumption))
          clear hK K hHeld
          have hHeld := hHeld2
          clear hHeld2
          try simp only [Act.put, List.setIfInBounds_toArray, List.set_cons_zero, List.set_cons_succ]
          refine wpAnyH_take (i := 10) (oi := ⟨some 15, _, _, _, _, _⟩) (v := _) rfl (by kernel_rfl) (by kernel_rfl) (by kernel_rfl) (fun _ _ _ h => h) (Or.inl ⟨by kernel_rfl, by intro w hSw; (try dsimp only at hSw); go_simp; try with_reducible rfl⟩) (by assumption) ?_
          simp only [Act.put, List.setIfInBounds_toArray, List.set_cons_zero, List.set_cons_succ]
          refine wpAnyH_done (by kernel_rfl) ?_ _
        rotate_left 1
      rotate_left 2
      focus
        go_simp
        refine hK.out _ _ ?_ (fun hHeld2 => ?_)
        · (first | (try dsimp only); go_keep | (go_split_ands; refine ⟨?_, ?_, ?_, ?_, ?_, ?_, ?_, ?_, ?_, ?_, ?_⟩ <;> first | exact keepB bx5 (by assumption) | exact keepB bx4 (by assumption) | exact keepB bx3 (by assumption) | exact keepB bx2 (by assumption) | exact keepB bx1 (by assumption) | exact keepO bo5 (by first | (simp; done) | (simp; omega)) (by assumption) | exact keepO bo4 (by first | (simp; done) | (simp; omega)) (by assumption) | exact keepO bo3 (by first | (simp; done) | (simp; omega)) (by assumption) | exact keepO bo2 (by first | (simp; done) | (simp; omega)) (by assumption) | exact keepO bo1 (by first | (simp; done) | (simp; omega)) (by assumption) | exact keepW bg2 (by first | (simp; done) | (simp; omega)) (by assumption) | exact keepW bg1 (by first | (simp; done) | (simp; omega)) (by assumption) | assumption))
        clear hK K hHeld
        have hHeld := hHeld2
        clear hHeld2
        try simp only [Act.put, List.setIfInBounds_toArray, List.set_cons_zero, List.set_cons_succ]
        refine wpAnyH_ready (rs := [3]) (by kernel_rfl) (by simp) ?_
        refine AllReadyH.cons (o := ⟨some 83, _, _, _, _, _⟩) rfl (fun K hK => ?_) AllReadyH.nil
        go_simp
        go_at_call 36
        obtain ⟨wq2, hwq⟩ : ∃ wq2, wq2 = x1.alloc (.cells #[.slice none 0 0, .int .i64 0, .int .i64 0, .int .i64 0] 25) := ⟨_, rfl⟩
        have bq : Below x1.heap.size x1 wq2 := by rw [hwq]; exact (Below.refl _ _).alloc (Nat.le_refl _) _
        have hqb : MB wq2 x1.heap.size (.slice none 0 0) 0 0 0 := by rw [hwq]; exact heap_alloc_new x1 _
        have hqa : x1.heap.size < wq2.heap.size := hqb.lt
        have hsy9 := hb_.size
        have hne1 : ¬ x1.heap.size = w.heap.size := by omega
        have hne2 : ¬ x1.heap.size = w.heap.size + 1 := by omega
        obtain ⟨⟨d0, d1, d2, d3⟩, ⟨fd0, fd1, fd2, fd3⟩⟩ := hqb.cells
        rw [← hwq]
        clear hwq
        replace c00 := keepB bq c00; replace c01 := keepB bq c01; replace c02 := keepB bq c02; replace c03 := keepB bq c03; replace c10 := keepB bq c10; replace c11 := keepB bq c11; replace c12 := keepB bq c12; replace c13 := keepB bq c13; replace c14 := keepB bq c14; replace c15 := keepB bq c15; replace c16 := keepB bq c16
        have hb9 := hb_.trans (bq.mono hb_.size)
        clear hb_
        have hb_ := hb9
        clear hb9
        have ox9 := ox.below bq (by first | exact Nat.le_refl _ | omega)
        clear ox
        have ox := ox9
        clear ox9
        refine (toEvent_any ek lb l r f t g wq2).mono ?_
        rintro e x2 ⟨rfl, bx_⟩
        replace c00 := keepB bx_ c00; replace c01 := keepB bx_ c01; replace c02 := keepB bx_ c02; replace c03 := keepB bx_ c03; replace c10 := keepB bx_ c10; replace c11 := keepB bx_ c11; replace c12 := keepB bx_ c12; replace c13 := keepB bx_ c13; replace c14 := keepB bx_ c14; replace c15 := keepB bx_ c15; replace c16 := keepB bx_ c16
        replace d0 := keepB bx_ d0; replace d1 := keepB bx_ d1; replace d2 := keepB bx_ d2; replace d3 := keepB bx_ d3
        replace fd0 := keepF bx_ (by first | (simp; done) | (simp; omega)) fd0; replace fd1 := keepF bx_ (by first | (simp; done) | (simp; omega)) fd1; replace fd2 := keepF bx_ (by first | (simp; done) | (simp; omega)) fd2; replace fd3 := keepF bx_ (by first | (simp; done) | (simp; omega)) fd3
        have hqb9 := hqb.below bx_ (by omega)
        clear hqb
        have hqb := hqb9
        clear hqb9
        have hs_ := bx_.size
        have hb9 := hb_.trans (bx_.mono hb_.size)
        clear hb_
        have hb_ := hb9
        clear hb9
        have ox9 := ox.below bx_ (by first | exact Nat.le_refl _ | omega)
        clear ox
        have ox := ox9
        clear ox9
        clear bx_
        go_wp2_with fail
        refine hK.out _ _ ?_ (fun hHeld2 => ?_)
        · (first | (try dsimp only); go_keep | (go_split_ands; refine ⟨?_, ?_, ?_, ?_, ?_, ?_, ?_, ?_, ?_, ?_, ?_⟩ <;> first | exact keepB bx5 (by assumption) | exact keepB bx4 (by assumption) | exact keepB bx3 (by assumption) | exact keepB bx2 (by assumption) | exact keepB bx1 (by assumption) | exact keepO bo5 (by first | (simp; done) | (simp; omega)) (by assumption) | exact keepO bo4 (by first | (simp; done) | (simp; omega)) (by assumption) | exact keepO bo3 (by first | (simp; done) | (simp; omega)) (by assumption) | exact keepO bo2 (by first | (simp; done) | (simp; omega)) (by assumption) | exact keepO bo1 (by first | (simp; done) | (simp; omega)) (by assumption) | exact keepW bg2 (by first | (simp; done) | (simp; omega)) (by assumption) | exact keepW bg1 (by first | (simp; done) | (simp; omega)) (by assumption) | assumption))
        clear hK K hHeld
        have hHeld := hHeld2
        clear hHeld2
        try simp only [Act.put, List.setIfInBounds_toArray, List.set_cons_zero, List.set_cons_succ]
        refine wpAnyH_ready (rs := [4]) (by kernel_rfl) (by simp) ?_
        refine AllReadyH.cons (o := ⟨some 84, _, _, _, _, _⟩) rfl (fun K hK => ?_) AllReadyH.nil
        go_simp
        go_at_call 20
        
        refine (ApplyEvent_fix _ _ _ ⟨es, a, b, z⟩ ⟨ek, lb, l, r, f, t, g⟩ es5 a5 b5 z5 rs x2 ox.es (by omega) hin H64.out HM5.out Hrs.out).mono ?_
        rintro e x3 ⟨AE, cE, rfl, o3, bx_⟩
        replace c00 := keepB bx_ c00; replace c01 := keepB bx_ c01; replace c02 := keepB bx_ c02; replace c03 := keepB bx_ c03; replace c10 := keepB bx_ c10; replace c11 := keepB bx_ c11; replace c12 := keepB bx_ c12; replace c13 := keepB bx_ c13; replace c14 := keepB bx_ c14; replace c15 := keepB bx_ c15; replace c16 := keepB bx_ c16
        replace d0 := keepB bx_ d0; replace d1 := keepB bx_ d1; replace d2 := keepB bx_ d2; replace d3 := keepB bx_ d3
        replace fd0 := keepF bx_ (by first | (simp; done) | (simp; omega)) fd0; replace fd1 := keepF bx_ (by first | (simp; done) | (simp; omega)) fd1; replace fd2 := keepF bx_ (by first | (simp; done) | (simp; omega)) fd2; replace fd3 := keepF bx_ (by first | (simp; done) | (simp; omega)) fd3
        have hqb9 := hqb.below bx_ (by omega)
        clear hqb
        have hqb := hqb9
        clear hqb9
        have hs_ := bx_.size
        have hb9 := hb_.trans (bx_.mono hb_.size)
        clear hb_
        have hb_ := hb9
        clear hb9
        have ox9 := ox.below bx_ (by first | exact Nat.le_refl _ | omega)
        clear ox
        have ox := ox9
        clear ox9
        clear bx_
        go_wp2_with fail
        refine hK.out _ _ ?_ (fun hHeld2 => ?_)
        · (first | (try dsimp only); go_keep | (go_split_ands; refine ⟨?_, ?_, ?_, ?_, ?_, ?_, ?_, ?_, ?_, ?_, ?_⟩ <;> first | exact keepB bx5 (by assumption) | exact keepB bx4 (by assumption) | exact keepB bx3 (by assumption) | exact keepB bx2 (by assumption) | exact keepB bx1 (by assumption) | exact keepO bo5 (by first | (simp; done) | (simp; omega)) (by assumption) | exact keepO bo4 (by first | (simp; done) | (simp; omega)) (by assumption) | exact keepO bo3 (by first | (simp; done) | (simp; omega)) (by assumption) | exact keepO bo2 (by first | (simp; done) | (simp; omega)) (by assumption) | exact keepO bo1 (by first | (simp; done) | (simp; omega)) (by assumption) | exact keepW bg2 (by first | (simp; done) | (simp; omega)) (by assumption) | exact keepW bg1 (by first | (simp; done) | (simp; omega)) (by assumption) | assumption))
        clear hK K hHeld
        have hHeld := hHeld2
        clear hHeld2
        try simp only [Act.put, List.setIfInBounds_toArray, List.set_cons_zero, List.set_cons_succ]
        refine wpAnyH_take (i := 5) (oi := ⟨some 79, _, _, _, _, _⟩) (v := _) rfl (by kernel_rfl) (by kernel_rfl) (by kernel_rfl) (fun _ _ _ h => h) (Or.inl ⟨by kernel_rfl, by intro w hSw; (try dsimp only at hSw); go_simp; try with_reducible rfl⟩) (by assumption) ?_
        simp only [Act.put, List.setIfInBounds_toArray, List.set_cons_zero, List.set_cons_succ]
        refine wpAnyH_take (i := 6) (oi := ⟨some 85, _, _, _, _, _⟩) (v := _) rfl (by kernel_rfl) (by kernel_rfl) (by kernel_rfl) (fun _ _ _ h => h) (Or.inl ⟨by kernel_rfl, by intro w hSw; (try dsimp only at hSw); go_simp; try with_reducible rfl⟩) (by assumption) ?_
        simp only [Act.put, List.setIfInBounds_toArray, List.set_cons_zero, List.set_cons_succ]
        refine wpAnyH_take (i := 7) (oi := ⟨some 86, _, _, _, _, _⟩) (v := _) rfl (by kernel_rfl) (by kernel_rfl) (by kernel_rfl) (fun _ _ _ h => h) (Or.inl ⟨by kernel_rfl, by intro w hSw; (try dsimp only at hSw); go_simp; try with_reducible rfl⟩) (by assumption) ?_
        simp only [Act.put, List.setIfInBounds_toArray, List.set_cons_zero, List.set_cons_succ]
        refine wpAnyH_ready (rs := [9]) (by kernel_rfl) (by simp) ?_
        refine AllReadyH.cons (o := ⟨none, _, _, _, _, _⟩) rfl (fun K hK => ?_) AllReadyH.nil
        go_simp
        refine hK.out _ _ ?_ (fun hHeld2 => ?_)
        · (first | (try dsimp only); go_keep | (go_split_ands; refine ⟨?_, ?_, ?_, ?_, ?_, ?_, ?_, ?_, ?_, ?_, ?_⟩ <;> first | exact keepB bx5 (by assumption) | exact keepB bx4 (by assumption) | exact keepB bx3 (by assumption) | exact keepB bx2 (by assumption) | exact keepB bx1 (by assumption) | exact keepO bo5 (by first | (simp; done) | (simp; omega)) (by assumption) | exact keepO bo4 (by first | (simp; done) | (simp; omega)) (by assumption) | exact keepO bo3 (by first | (simp; done) | (simp; omega)) (by assumption) | exact keepO bo2 (by first | (simp; done) | (simp; omega)) (by assumption) | exact keepO bo1 (by first | (simp; done) | (simp; omega)) (by assumption) | exact keepW bg2 (by first | (simp; done) | (simp; omega)) (by assumption) | exact keepW bg1 (by first | (simp; done) | (simp; omega)) (by assumption) | assumption))
        clear hK K hHeld
        have hHeld := hHeld2
        clear hHeld2
        try simp only [Act.put, List.setIfInBounds_toArray, List.set_cons_zero, List.set_cons_succ]
        refine wpAnyH_take (i := 10) (oi := ⟨some 15, _, _, _, _, _⟩) (v := _) rfl (by kernel_rfl) (by kernel_rfl) (by kernel_rfl) (fun _ _ _ h => h) (Or.inl ⟨by kernel_rfl, by intro w hSw; (try dsimp only at hSw); go_simp; try with_reducible rfl⟩) (by assumption) ?_
        simp only [Act.put, List.setIfInBounds_toArray, List.set_cons_zero, List.set_cons_succ]
        refine wpAnyH_done (by kernel_rfl) ?_ _
      rotate_left 1
    rotate_left 3
    focus
      go_simp
      refine hK.out _ _ ?_ (fun hHeld2 => ?_)
      · (first | (try dsimp only); go_keep | (go_split_ands; refine ⟨?_, ?_, ?_, ?_, ?_, ?_, ?_, ?_, ?_, ?_, ?_⟩ <;> first | exact keepB bx5 (by assumption) | exact keepB bx4 (by assumption) | exact keepB bx3 (by assumption) | exact keepB bx2 (by assumption) | exact keepB bx1 (by assumption) | exact keepO bo5 (by first | (simp; done) | (simp; omega)) (by assumption) | exact keepO bo4 (by first | (simp; done) | (simp; omega)) (by assumption) | exact keepO bo3 (by first | (simp; done) | (simp; omega)) (by assumption) | exact keepO bo2 (by first | (simp; done) | (simp; omega)) (by assumption) | exact keepO bo1 (by first | (simp; done) | (simp; omega)) (by assumption) | exact keepW bg2 (by first | (simp; done) | (simp; omega)) (by assumption) | exact keepW bg1 (by first | (simp; done) | (simp; omega)) (by assumption) | assumption))
      clear hK K hHeld
      have hHeld := hHeld2
      clear hHeld2
      try simp only [Act.put, List.setIfInBounds_toArray, List.set_cons_zero, List.set_cons_succ]
      refine wpAnyH_ready (rs := [1]) (by kernel_rfl) (by simp) ?_
      refine AllReadyH.cons (o := ⟨some 81, _, _, _, _, _⟩) rfl (fun K hK => ?_) AllReadyH.nil
      go_simp
      go_at_call 35
      obtain ⟨wq, hwq⟩ : ∃ wq, wq = (y13.alloc (.cells #[.slice none 0 0, .int .i64 0, .int .i64 0, .int .i64 0] 25)).drew := ⟨_, rfl⟩
      have bq : Below y13.heap.size y13 wq := by rw [hwq]; exact ((Below.refl _ _).alloc (Nat.le_refl _) _).trans ((Qt.one _ 1).below _)
      have hqb : MB wq y13.heap.size (.slice none 0 0) 0 0 0 := by rw [hwq]; exact heap_alloc_new y13 _
      have hqa : y13.heap.size < wq.heap.size := hqb.lt
      have hne1 : ¬ y13.heap.size = w.heap.size := by omega
      have hne2 : ¬ y13.heap.size = w.heap.size + 1 := by omega
      obtain ⟨⟨d0, d1, d2, d3⟩, ⟨fd0, fd1, fd2, fd3⟩⟩ := hqb.cells
      rw [← hwq]
      clear hwq
      replace c00 := keepB bq c00; replace c01 := keepB bq c01; replace c02 := keepB bq c02; replace c03 := keepB bq c03; replace c10 := keepB bq c10; replace c11 := keepB bq c11; replace c12 := keepB bq c12; replace c13 := keepB bq c13; replace c14 := keepB bq c14; replace c15 := keepB bq c15; replace c16 := keepB bq c16
      have hb_ := bq
      refine (toMill_any 0 w.heap.size _ es a b z wq (hes wq (By13.trans (hb_.mono hsy13))) (by have := hb_.size; omega) hl HSz.out).mono ?_
      rintro e x1 ⟨vx, rfl, ox, bx_⟩
      obtain ⟨Ax, cx, rfl, _⟩ := ox.form
      replace c00 := keepB bx_ c00; replace c01 := keepB bx_ c01; replace c02 := keepB bx_ c02; replace c03 := keepB bx_ c03; replace c10 := keepB bx_ c10; replace c11 := keepB bx_ c11; replace c12 := keepB bx_ c12; replace c13 := keepB bx_ c13; replace c14 := keepB bx_ c14; replace c15 := keepB bx_ c15; replace c16 := keepB bx_ c16
      replace d0 := keepB bx_ d0; replace d1 := keepB bx_ d1; replace d2 := keepB bx_ d2; replace d3 := keepB bx_ d3
      replace fd0 := keepF bx_ (by first | (simp; done) | (simp; omega)) fd0; replace fd1 := keepF bx_ (by first | (simp; done) | (simp; omega)) fd1; replace fd2 := keepF bx_ (by first | (simp; done) | (simp; omega)) fd2; replace fd3 := keepF bx_ (by first | (simp; done) | (simp; omega)) fd3
      have hqb9 := hqb.below bx_ (by omega)
      clear hqb
      have hqb := hqb9
      clear hqb9
      have hs_ := bx_.size
      have hb9 := hb_.trans (bx_.mono hb_.size)
      clear hb_
      have hb_ := hb9
      clear hb9
      clear bx_
      go_wp2_with fail
      refine hK.out _ _ ?_ (fun hHeld2 => ?_)
      · (first | (try dsimp only); go_keep | (go_split_ands; refine ⟨?_, ?_, ?_, ?_, ?_, ?_, ?_, ?_, ?_, ?_, ?_⟩ <;> first | exact keepB bx5 (by assumption) | exact keepB bx4 (by assumption) | exact keepB bx3 (by assumption) | exact keepB bx2 (by assumption) | exact keepB bx1 (by assumption) | exact keepO bo5 (by first | (simp; done) | (simp; omega)) (by assumption) | exact keepO bo4 (by first | (simp; done) | (simp; omega)) (by assumption) | exact keepO bo3 (by first | (simp; done) | (simp; omega)) (by assumption) | exact keepO bo2 (by first | (simp; done) | (simp; omega)) (by assumption) | exact keepO bo1 (by first | (simp; done) | (simp; omega)) (by assumption) | exact keepW bg2 (by first | (simp; done) | (simp; omega)) (by assumption) | exact keepW bg1 (by first | (simp; done) | (simp; omega)) (by assumption) | assumption))
      clear hK K hHeld
      have hHeld := hHeld2
      clear hHeld2
      try simp only [Act.put, List.setIfInBounds_toArray, List.set_cons_zero, List.set_cons_succ]
      refine wpAnyH_ready (rs := [3]) (by kernel_rfl) (by simp) ?_
      refine AllReadyH.cons (o := ⟨some 83, _, _, _, _, _⟩) rfl (fun K hK => ?_) AllReadyH.nil
      go_simp
      go_at_call 36
      
      refine (toEvent_any ek lb l r f t g x1).mono ?_
      rintro e x2 ⟨rfl, bx_⟩
      replace c00 := keepB bx_ c00; replace c01 := keepB bx_ c01; replace c02 := keepB bx_ c02; replace c03 := keepB bx_ c03; replace c10 := keepB bx_ c10; replace c11 := keepB bx_ c11; replace c12 := keepB bx_ c12; replace c13 := keepB bx_ c13; replace c14 := keepB bx_ c14; replace c15 := keepB bx_ c15; replace c16 := keepB bx_ c16
      replace d0 := keepB bx_ d0; replace d1 := keepB bx_ d1; replace d2 := keepB bx_ d2; replace d3 := keepB bx_ d3
      replace fd0 := keepF bx_ (by first | (simp; done) | (simp; omega)) fd0; replace fd1 := keepF bx_ (by first | (simp; done) | (simp; omega)) fd1; replace fd2 := keepF bx_ (by first | (simp; done) | (simp; omega)) fd2; replace fd3 := keepF bx_ (by first | (simp; done) | (simp; omega)) fd3
      have hqb9 := hqb.below bx_ (by omega)
      clear hqb
      have hqb := hqb9
      clear hqb9
      have hs_ := bx_.size
      have hb9 := hb_.trans (bx_.mono hb_.size)
      clear hb_
      have hb_ := hb9
      clear hb9
      have ox9 := ox.below bx_ (by first | exact Nat.le_refl _ | omega)
      clear ox
      have ox := ox9
      clear ox9
      clear bx_
      go_wp2_with fail
      refine hK.out _ _ ?_ (fun hHeld2 => ?_)
      · (first | (try dsimp only); go_keep | (go_split_ands; refine ⟨?_, ?_, ?_, ?_, ?_, ?_, ?_, ?_, ?_, ?_, ?_⟩ <;> first | exact keepB bx5 (by assumption) | exact keepB bx4 (by assumption) | exact keepB bx3 (by assumption) | exact keepB bx2 (by assumption) | exact keepB bx1 (by assumption) | exact keepO bo5 (by first | (simp; done) | (simp; omega)) (by assumption) | exact keepO bo4 (by first | (simp; done) | (simp; omega)) (by assumption) | exact keepO bo3 (by first | (simp; done) | (simp; omega)) (by assumption) | exact keepO bo2 (by first | (simp; done) | (simp; omega)) (by assumption) | exact keepO bo1 (by first | (simp; done) | (simp; omega)) (by assumption) | exact keepW bg2 (by first | (simp; done) | (simp; omega)) (by assumption) | exact keepW bg1 (by first | (simp; done) | (simp; omega)) (by assumption) | assumption))
      clear hK K hHeld
      have hHeld := hHeld2
      clear hHeld2
      try simp only [Act.put, List.setIfInBounds_toArray, List.set_cons_zero, List.set_cons_succ]
      refine wpAnyH_ready (rs := [4]) (by kernel_rfl) (by simp) ?_
      refine AllReadyH.cons (o := ⟨some 84, _, _, _, _, _⟩) rfl (fun K hK => ?_) AllReadyH.nil
      go_simp
      go_at_call 20
      
      refine (ApplyEvent_fix _ _ _ ⟨es, a, b, z⟩ ⟨ek, lb, l, r, f, t, g⟩ es5 a5 b5 z5 rs x2 ox.es (by omega) hin H64.out HM5.out Hrs.out).mono ?_
      rintro e x3 ⟨AE, cE, rfl, o3, bx_⟩
      replace c00 := keepB bx_ c00; replace c01 := keepB bx_ c01; replace c02 := keepB bx_ c02; replace c03 := keepB bx_ c03; replace c10 := keepB bx_ c10; replace c11 := keepB bx_ c11; replace c12 := keepB bx_ c12; replace c13 := keepB bx_ c13; replace c14 := keepB bx_ c14; replace c15 := keepB bx_ c15; replace c16 := keepB bx_ c16
      replace d0 := keepB bx_ d0; replace d1 := keepB bx_ d1; replace d2 := keepB bx_ d2; replace d3 := keepB bx_ d3
      replace fd0 := keepF bx_ (by first | (simp; done) | (simp; omega)) fd0; replace fd1 := keepF bx_ (by first | (simp; done) | (simp; omega)) fd1; replace fd2 := keepF bx_ (by first | (simp; done) | (simp; omega)) fd2; replace fd3 := keepF bx_ (by first | (simp; done) | (simp; omega)) fd3
      have hqb9 := hqb.below bx_ (by omega)
      clear hqb
      have hqb := hqb9
      clear hqb9
      have hs_ := bx_.size
      have hb9 := hb_.trans (bx_.mono hb_.size)
      clear hb_
      have hb_ := hb9
      clear hb9
      have ox9 := ox.below bx_ (by first | exact Nat.le_refl _ | omega)
      clear ox
      have ox := ox9
      clear ox9
      clear bx_
      go_wp2_with fail
      refine hK.out _ _ ?_ (fun hHeld2 => ?_)
      · (first | (try dsimp only); go_keep | (go_split_ands; refine ⟨?_, ?_, ?_, ?_, ?_, ?_, ?_, ?_, ?_, ?_, ?_⟩ <;> first | exact keepB bx5 (by assumption) | exact keepB bx4 (by assumption) | exact keepB bx3 (by assumption) | exact keepB bx2 (by assumption) | exact keepB bx1 (by assumption) | exact keepO bo5 (by first | (simp; done) | (simp; omega)) (by assumption) | exact keepO bo4 (by first | (simp; done) | (simp; omega)) (by assumption) | exact keepO bo3 (by first | (simp; done) | (simp; omega)) (by assumption) | exact keepO bo2 (by first | (simp; done) | (simp; omega)) (by assumption) | exact keepO bo1 (by first | (simp; done) | (simp; omega)) (by assumption) | exact keepW bg2 (by first | (simp; done) | (simp; omega)) (by assumption) | exact keepW bg1 (by first | (simp; done) | (simp; omega)) (by assumption) | assumption))
      clear hK K hHeld
      have hHeld := hHeld2
      clear hHeld2
      try simp only [Act.put, List.setIfInBounds_toArray, List.set_cons_zero, List.set_cons_succ]
      refine wpAnyH_take (i := 5) (oi := ⟨some 79, _, _, _, _, _⟩) (v := _) rfl (by kernel_rfl) (by kernel_rfl) (by kernel_rfl) (fun _ _ _ h => h) (Or.inl ⟨by kernel_rfl, by intro w hSw; (try dsimp only at hSw); go_simp; try with_reducible rfl⟩) (by assumption) ?_
      simp only [Act.put, List.setIfInBounds_toArray, List.set_cons_zero, List.set_cons_succ]
      refine wpAnyH_take (i := 6) (oi := ⟨some 85, _, _, _, _, _⟩) (v := _) rfl (by kernel_rfl) (by kernel_rfl) (by kernel_rfl) (fun _ _ _ h => h) (Or.inl ⟨by kernel_rfl, by intro w hSw; (try dsimp only at hSw); go_simp; try with_reducible rfl⟩) (by assumption) ?_
      simp only [Act.put, List.setIfInBounds_toArray, List.set_cons_zero, List.set_cons_succ]
      refine wpAnyH_take (i := 7) (oi := ⟨some 86, _, _, _, _, _⟩) (v := _) rfl (by kernel_rfl) (by kernel_rfl) (by kernel_rfl) (fun _ _ _ h => h) (Or.inl ⟨by kernel_rfl, by intro w hSw; (try dsimp only at hSw); go_simp; try with_reducible rfl⟩) (by assumption) ?_
      simp only [Act.put, List.setIfInBounds_toArray, List.set_cons_zero, List.set_cons_succ]
      refine wpAnyH_ready (rs := [9]) (by kernel_rfl) (by simp) ?_
      refine AllReadyH.cons (o := ⟨none, _, _, _, _, _⟩) rfl (fun K hK => ?_) AllReadyH.nil
      go_simp
      refine hK.out _ _ ?_ (fun hHeld2 => ?_)
      · (first | (try dsimp only); go_keep | (go_split_ands; refine ⟨?_, ?_, ?_, ?_, ?_, ?_, ?_, ?_, ?_, ?_, ?_⟩ <;> first | exact keepB bx5 (by assumption) | exact keepB bx4 (by assumption) | exact keepB bx3 (by assumption) | exact keepB bx2 (by assumption) | exact keepB bx1 (by assumption) | exact keepO bo5 (by first | (simp; done) | (simp; omega)) (by assumption) | exact keepO bo4 (by first | (simp; done) | (simp; omega)) (by assumption) | exact keepO bo3 (by first | (simp; done) | (simp; omega)) (by assumption) | exact keepO bo2 (by first | (simp; done) | (simp; omega)) (by assumption) | exact keepO bo1 (by first | (simp; done) | (simp; omega)) (by assumption) | exact keepW bg2 (by first | (simp; done) | (simp; omega)) (by assumption) | exact keepW bg1 (by first | (simp; done) | (simp; omega)) (by assumption) | assumption))
      clear hK K hHeld
      have hHeld := hHeld2
      clear hHeld2
      try simp only [Act.put, List.setIfInBounds_toArray, List.set_cons_zero, List.set_cons_succ]
      refine wpAnyH_take (i := 10) (oi := ⟨some 15, _, _, _, _, _⟩) (v := _) rfl (by kernel_rfl) (by kernel_rfl) (by kernel_rfl) (fun _ _ _ h => h) (Or.inl ⟨by kernel_rfl, by intro w hSw; (try dsimp only at hSw); go_simp; try with_reducible rfl⟩) (by assumption) ?_
      simp only [Act.put, List.setIfInBounds_toArray, List.set_cons_zero, List.set_cons_succ]
      refine wpAnyH_done (by kernel_rfl) ?_ _
    rotate_left 1
    focus
      obtain ⟨wz, hwz⟩ : ∃ wz, wz = x3.alloc (.cells #[.slice AE es5.length cE, .int .i64 a5, .int .i64 b5, .int .i64 z5] 25) := ⟨_, rfl⟩
      have bz : Below x3.heap.size x3 wz := by rw [hwz]; exact (Below.refl _ _).alloc (Nat.le_refl _) _
      have hmz : MB wz x3.heap.size (.slice AE es5.length cE) a5 b5 z5 := by rw [hwz]; exact heap_alloc_new x3 _
      have hbz := hb_.trans (bz.mono hb_.size)
      have hoz := o3.below bz (Nat.le_refl _)
      have hsz := bz.size
      have hsy := hb_.size
      obtain ⟨X9, hX9⟩ : ∃ X, X = x3.heap.size := ⟨_, rfl⟩
      rw [← hX9] at hmz
      rw [← hX9, ← hwz]
      exact hk X9 wz Ax cx AE cE ⟨hbz, hmz, hoz.wide (by omega) (by omega)⟩
    focus
      obtain ⟨X9, hX9⟩ : ∃ X, X = x2.heap.size := ⟨_, rfl⟩
      obtain ⟨wz, hwz⟩ : ∃ wz, wz = (((x3.setCell ⟨x2.heap.size, 0, none⟩ (.slice AE es5.length cE)).setCell ⟨x2.heap.size, 1, none⟩ (.int .i64 a5)).setCell ⟨x2.heap.size, 2, none⟩ (.int .i64 b5)).setCell ⟨x2.heap.size, 3, none⟩ (.int .i64 z5) := ⟨_, rfl⟩
      have hmz : MB wz x2.heap.size (.slice AE es5.length cE) a5 b5 z5 := by rw [hwz]; exact (((hqb.set0 _).set1 _).set2 _).set3 _
      have hsy := hb_.size
      have hle9 : y13.heap.size ≤ x2.heap.size := by omega
      have hbz : Below y13.heap.size y13 wz := by rw [hwz]; exact (((hb_.setCell (p := ⟨_, _, _⟩) hle9 _).setCell (p := ⟨_, _, _⟩) hle9 _).setCell (p := ⟨_, _, _⟩) hle9 _).setCell (p := ⟨_, _, _⟩) hle9 _
      have hoz := o3.kept (w' := wz) (fun q hq _ => by rw [hwz]; simp only [World.setCell, Array.getElem?_modify, if_neg (show ¬ x2.heap.size = q by omega)])
      have hsz : wz.heap.size = x3.heap.size := by rw [hwz]; simp [World.setCell]
      rw [← hX9] at hmz
      rw [← hwz, ← hX9]
      exact hk X9 wz Ax cx AE cE ⟨hbz, hmz, hoz.wide (by omega) (by omega)⟩
    focus
      obtain ⟨X9, hX9⟩ : ∃ X, X = x1.heap.size := ⟨_, rfl⟩
      obtain ⟨wz, hwz⟩ : ∃ wz, wz = (((x3.setCell ⟨x1.heap.size, 0, none⟩ (.slice AE es5.length cE)).setCell ⟨x1.heap.size, 1, none⟩ (.int .i64 a5)).setCell ⟨x1.heap.size, 2, none⟩ (.int .i64 b5)).setCell ⟨x1.heap.size, 3, none⟩ (.int .i64 z5) := ⟨_, rfl⟩
      have hmz : MB wz x1.heap.size (.slice AE es5.length cE) a5 b5 z5 := by rw [hwz]; exact (((hqb.set0 _).set1 _).set2 _).set3 _
      have hsy := hb_.size
      have hle9 : y13.heap.size ≤ x1.heap.size := by omega
      have hbz : Below y13.heap.size y13 wz := by rw [hwz]; exact (((hb_.setCell (p := ⟨_, _, _⟩) hle9 _).setCell (p := ⟨_, _, _⟩) hle9 _).setCell (p := ⟨_, _, _⟩) hle9 _).setCell (p := ⟨_, _, _⟩) hle9 _
      have hoz := o3.kept (w' := wz) (fun q hq _ => by rw [hwz]; simp only [World.setCell, Array.getElem?_modify, if_neg (show ¬ x1.heap.size = q by omega)])
      have hsz : wz.heap.size = x3.heap.size := by rw [hwz]; simp [World.setCell]
      rw [← hX9] at hmz
      rw [← hwz, ← hX9]
      exact hk X9 wz Ax cx AE cE ⟨hbz, hmz, hoz.wide (by omega) (by omega)⟩
    focus
      obtain ⟨X9, hX9⟩ : ∃ X, X = y13.heap.size := ⟨_, rfl⟩
      obtain ⟨wz, hwz⟩ : ∃ wz, wz = (((x3.setCell ⟨y13.heap.size, 0, none⟩ (.slice AE es5.length cE)).setCell ⟨y13.heap.size, 1, none⟩ (.int .i64 a5)).setCell ⟨y13.heap.size, 2, none⟩ (.int .i64 b5)).setCell ⟨y13.heap.size, 3, none⟩ (.int .i64 z5) := ⟨_, rfl⟩
      have hmz : MB wz y13.heap.size (.slice AE es5.length cE) a5 b5 z5 := by rw [hwz]; exact (((hqb.set0 _).set1 _).set2 _).set3 _
      have hsy := hb_.size
      have hle9 : y13.heap.size ≤ y13.heap.size := by omega
      have hbz : Below y13.heap.size y13 wz := by rw [hwz]; exact (((hb_.setCell (p := ⟨_, _, _⟩) hle9 _).setCell (p := ⟨_, _, _⟩) hle9 _).setCell (p := ⟨_, _, _⟩) hle9 _).setCell (p := ⟨_, _, _⟩) hle9 _
      have hoz := o3.kept (w' := wz) (fun q hq _ => by rw [hwz]; simp only [World.setCell, Array.getElem?_modify, if_neg (show ¬ y13.heap.size = q by omega)])
      have hsz : wz.heap.size = x3.heap.size := by rw [hwz]; simp [World.setCell]
      rw [← hX9] at hmz
      rw [← hwz, ← hX9]
      exact hk X9 wz Ax cx AE cE ⟨hbz, hmz, hoz.wide (by omega) (by omega)⟩

  obtain ⟨b14, hm14, ho14⟩ := hF
  have sb14 := b14.size
  have By14 := By13.trans (b14.mono hsy13)
  replace c00 := keepB b14 c00; replace c01 := keepB b14 c01; replace c02 := keepB b14 c02; replace c03 := keepB b14 c03; replace c10 := keepB b14 c10; replace c11 := keepB b14 c11; replace c12 := keepB b14 c12; replace c13 := keepB b14 c13; replace c14 := keepB b14 c14; replace c15 := keepB b14 c15; replace c16 := keepB b14 c16; replace t0 := keepB b14 t0; replace t1 := keepB b14 t1; replace t2 := keepB b14 t2; replace t3 := keepB b14 t3; replace g0 := keepB b14 g0; replace g1 := keepB b14 g1; replace g2 := keepB b14 g2; replace g3 := keepB b14 g3
  have he14 := he13.below b14 (by omega)
  have Hg14 := Lib.hid (Hg13.out.below b14 (by omega))
  obtain ⟨⟨k0, k1, k2, k3⟩, _⟩ := hm14.cells
  clear b14 hm14 he13 Hg13
  go_wp2_with fail
  refine (eqMill_same _ _ _ _ _ _ es5 a5 b5 z5 y14 ho14.es (Nat.le_refl _) he14 (by omega)).mono ?_
  rintro e y15 ⟨rfl, bx⟩
  have sb15 := bx.size
  have By15 := By14.trans (bx.mono (by omega))
  replace g0 := keepB bx g0; replace g1 := keepB bx g1; replace g2 := keepB bx g2; replace g3 := keepB bx g3
  have Hg15 := Lib.hid (Hg14.out.below bx (by omega))
  clear bx he14 Hg14 ho14
  go_wp2_with fail
  refine (heldMill_any lo9 hi9 _ es5 a5 b5 z5 1 y15 Hg15.out.es (by omega) HSm.out.2 (by omega) HO5.out).mono ?_
  rw [← HKg.out]
  rintro e y16 ⟨rfl, bx⟩
  have By16 := Lib.hid (By15.trans (bx.mono (by omega)))
  clear bx
  go_wp2
  go_ret
  exact ⟨rfl, By16.out⟩
end Go.Proofs.Ytcebdokdekgeaaa
