/-
  Lemmas and contracts of single functions of this program, used by the proofs of its laws: what each call returns and what becomes of memory. Conditions: the hypotheses of each theorem.
-/
import Derived.Test.YtkgepklapglmdaaGreatDoorMillR
namespace Go.Proofs.YtkgepklapglmdaaGreatDoor
open Go.RowKit
attribute [local go_sem ↓] Go.wp_at_zero Go.wp_at_succ

/-- what a call returns that makes something new of a mill -/
def OpPost (w : World) (r : Option Mil) (e : Ending) (w' : World) : Prop :=
  ∃ v', e = .returned (.tuple #[.agg #[v', .int .i64 (r.getD Mil.nil).a, .int .i64 (r.getD Mil.nil).b, .int .i64 (r.getD Mil.nil).z], .bool r.isSome]) ∧ OwnE w' w.heap.size w'.heap.size 58 92 38 v' (r.getD Mil.nil).es ∧ Below w.heap.size w w'
theorem OpPost.none {w w' : World} (h : Below w.heap.size w w') : OpPost w none (.returned (.tuple #[.agg #[.slice none 0 0, .int .i64 0, .int .i64 0, .int .i64 0], .bool false])) w' := ⟨_, rfl, OwnE.nil _ _ _ _ _ _, h⟩
theorem OpPost.some {w w' : World} {v : Value} {es : List Ent} {a b z : Int} (h : Below w.heap.size w w') (he : OwnE w' w.heap.size w'.heap.size 58 92 38 v es) : OpPost w (some ⟨es, a, b, z⟩) (.returned (.tuple #[.agg #[v, .int .i64 a, .int .i64 b, .int .i64 z], .bool true])) w' := ⟨_, rfl, he, h⟩
def apV (m : Mil) (e : Evt) : Option Mil := if m.ok = true then apE m e else none
set_option maxRecDepth 100000 in
set_option maxHeartbeats 8000000 in
theorem ApplyEvent_any (lo hi : Nat) (v : Value) (m : Mil) (ev : Evt) (w : World) (h : ES w lo hi v m.es) (hhi : hi ≤ w.heap.size) (hin : I64 m.a ∧ I64 m.b ∧ I64 m.z) (h64 : V64 ev) :
    Calls Tryz.prog 13 #[.agg #[v, .int .i64 m.a, .int .i64 m.b, .int .i64 m.z], .agg #[.int .i64 ev.k, .int .i64 ev.lb, .int .i64 ev.l, .int .i64 ev.r, .int .i64 ev.f, .int .i64 ev.t, .int .i64 ev.g]] w fun e w' => OpPost w (apV m ev) e w' := by
  obtain ⟨es, a, b, z⟩ := m
  obtain ⟨k, lb, l, r, f, t, g⟩ := ev
  dsimp only at h hin ⊢
  obtain ⟨A, c, rfl, hc, hm⟩ := h.form
  have hes : ∀ w1, Below w.heap.size w w1 → ES w1 lo hi (.slice A es.length c) es := fun w1 hb => h.below hb hhi
  have H64 := Lib.hid h64
  clear h64
  have Hs := Lib.hid (show ∃ w1, w1 = (((w.alloc (.cells #[.slice A es.length c, .int .i64 a, .int .i64 b, .int .i64 z] 25)).alloc (.cells #[.int .i64 k, .int .i64 lb, .int .i64 l, .int .i64 r, .int .i64 f, .int .i64 t, .int .i64 g] 40)).alloc (.cells #[.slice none 0 0, .int .i64 0, .int .i64 0, .int .i64 0] 25)) ∧ Below w.heap.size w w1 ∧ w1.cell? ⟨w.heap.size, 0, none⟩ = some (.slice A es.length c) ∧ w1.cell? ⟨w.heap.size, 1, none⟩ = some (.int .i64 a) ∧ w1.cell? ⟨w.heap.size, 2, none⟩ = some (.int .i64 b) ∧ w1.cell? ⟨w.heap.size, 3, none⟩ = some (.int .i64 z) ∧ w1.cell? ⟨w.heap.size + 1, 0, none⟩ = some (.int .i64 k) ∧ w1.cell? ⟨w.heap.size + 1, 1, none⟩ = some (.int .i64 lb) ∧ w1.cell? ⟨w.heap.size + 1, 2, none⟩ = some (.int .i64 l) ∧ w1.cell? ⟨w.heap.size + 1, 3, none⟩ = some (.int .i64 r) ∧ w1.cell? ⟨w.heap.size + 1, 4, none⟩ = some (.int .i64 f) ∧ w1.cell? ⟨w.heap.size + 1, 5, none⟩ = some (.int .i64 t) ∧ w1.cell? ⟨w.heap.size + 1, 6, none⟩ = some (.int .i64 g) ∧ w1.cell? ⟨w.heap.size + 1 + 1, 0, none⟩ = some (.slice none 0 0) ∧ w1.cell? ⟨w.heap.size + 1 + 1, 1, none⟩ = some (.int .i64 0) ∧ w1.cell? ⟨w.heap.size + 1 + 1, 2, none⟩ = some (.int .i64 0) ∧ w1.cell? ⟨w.heap.size + 1 + 1, 3, none⟩ = some (.int .i64 0) ∧ w1.frozen? ⟨w.heap.size + 1 + 1, 0, none⟩ = false ∧ w1.frozen? ⟨w.heap.size + 1 + 1, 1, none⟩ = false ∧ w1.frozen? ⟨w.heap.size + 1 + 1, 2, none⟩ = false ∧ w1.frozen? ⟨w.heap.size + 1 + 1, 3, none⟩ = false ∧ w.heap.size + 1 + 1 < w1.heap.size from by
    have hb : Below w.heap.size w (((w.alloc (.cells #[.slice A es.length c, .int .i64 a, .int .i64 b, .int .i64 z] 25)).alloc (.cells #[.int .i64 k, .int .i64 lb, .int .i64 l, .int .i64 r, .int .i64 f, .int .i64 t, .int .i64 g] 40)).alloc (.cells #[.slice none 0 0, .int .i64 0, .int .i64 0, .int .i64 0] 25)) := (((Below.refl _ _).alloc (Nat.le_refl _) _).alloc (by simp) _).alloc (by simp; omega) _
    exact ⟨_, rfl, hb, by go_simp, by go_simp, by go_simp, by go_simp, by go_simp, by go_simp, by go_simp, by go_simp, by go_simp, by go_simp, by go_simp, by go_simp, by go_simp, by go_simp, by go_simp, by go_simp, by go_simp, by go_simp, by go_simp, by simp⟩)
  go_enter Tryz.func13, Tryz.ntmps13
  go_wp2_with fail
  obtain ⟨w1, hw1, hb0, c00, c01, c02, c03, c10, c11, c12, c13, c14, c15, c16, c20, c21, c22, c23, f20, f21, f22, f23, hz⟩ := Hs.out
  have HZ := Lib.hid (show w1.heap.size = w.heap.size + 1 + 1 + 1 by rw [hw1]; simp)
  rw [← hw1]
  clear hw1 Hs
  have hzz : w.heap.size + 1 + 1 + 1 = w1.heap.size := HZ.out.symm
  have Hzz := Lib.hid hzz
  clear hzz
  have hw12 : w.heap.size + 1 + 1 < w1.heap.size := by have := HZ.out; omega
  refine (ValidMill_any lo hi _ es a b z w1 (hes w1 hb0) (by omega) hin).mono ?_
  rintro e wa ⟨rfl, bx1⟩
  replace c00 := keepB bx1 c00; replace c01 := keepB bx1 c01; replace c02 := keepB bx1 c02; replace c03 := keepB bx1 c03; replace c10 := keepB bx1 c10; replace c11 := keepB bx1 c11; replace c12 := keepB bx1 c12; replace c13 := keepB bx1 c13; replace c14 := keepB bx1 c14; replace c15 := keepB bx1 c15; replace c16 := keepB bx1 c16; replace c20 := keepB bx1 c20; replace c21 := keepB bx1 c21; replace c22 := keepB bx1 c22; replace c23 := keepB bx1 c23
  replace f20 := keepF bx1 (by first | (simp; done) | (simp; omega)) f20; replace f21 := keepF bx1 (by first | (simp; done) | (simp; omega)) f21; replace f22 := keepF bx1 (by first | (simp; done) | (simp; omega)) f22; replace f23 := keepF bx1 (by first | (simp; done) | (simp; omega)) f23
  have hbx := hb0.trans (bx1.mono (by omega))
  have hzx := bx1.size
  clear bx1 hb0
  cases hvm0 : vMill es a b z
  · have HR := Lib.hid (show apV ⟨es, a, b, z⟩ ⟨k, lb, l, r, f, t, g⟩ = none by unfold apV Mil.ok; dsimp only; rw [hvm0, if_neg (by simp)])
    have Hbx := Lib.hid hbx
    clear hvm0 hbx hes h
    go_wp2
    refine bodyPost_ret (v := .tuple #[.agg #[.slice none 0 0, .int .i64 0, .int .i64 0, .int .i64 0], .bool false]) (by simp [results, Tryz.results13, go_sem, *]) rfl ?_
    rw [HR.out]
    exact OpPost.none (((((Hbx.out.setCell (p := ⟨_, _, _⟩) (by simp; omega) _).setCell (p := ⟨_, _, _⟩) (by simp; omega) _).setCell (p := ⟨_, _, _⟩) (by simp; omega) _).setCell (p := ⟨_, _, _⟩) (by simp; omega) _))
  have HM := Lib.hid (show apV ⟨es, a, b, z⟩ ⟨k, lb, l, r, f, t, g⟩ = apE ⟨es, a, b, z⟩ ⟨k, lb, l, r, f, t, g⟩ by unfold apV Mil.ok; dsimp only; rw [hvm0, if_pos rfl])
  have hsz := mill_sizes hvm0
  have hvm := vMill_iff.1 hvm0
  have hl12 := hsz.1
  have HSz := Lib.hid hsz.2
  have HEn := Lib.hid hvm.1
  have ha9 := hvm.2.2.1
  have hb9 := hvm.2.2.2.1
  have hz9 := hvm.2.2.2.2.1
  clear hsz hvm hvm0 hin
  go_wp2_with fail
  refine (cloneMill_any lo hi _ es a b z wa (hes wa hbx) (by omega) (by omega) HSz.out).mono ?_
  rintro e w2 ⟨v2, rfl, ho2, b2⟩
  replace ho2 := ho2.wide hzx (Nat.le_refl _)
  obtain ⟨A2, c2, hv2, hc2, hm2⟩ := ho2.form
  subst hv2
  replace c00 := keepB b2 c00; replace c01 := keepB b2 c01; replace c02 := keepB b2 c02; replace c03 := keepB b2 c03; replace c10 := keepB b2 c10; replace c11 := keepB b2 c11; replace c12 := keepB b2 c12; replace c13 := keepB b2 c13; replace c14 := keepB b2 c14; replace c15 := keepB b2 c15; replace c16 := keepB b2 c16; replace c20 := keepB b2 c20; replace c21 := keepB b2 c21; replace c22 := keepB b2 c22; replace c23 := keepB b2 c23
  replace f20 := keepF b2 (by first | (simp; done) | (simp; omega)) f20; replace f21 := keepF b2 (by first | (simp; done) | (simp; omega)) f21; replace f22 := keepF b2 (by first | (simp; done) | (simp; omega)) f22; replace f23 := keepF b2 (by first | (simp; done) | (simp; omega)) f23
  have hb2 := hbx.trans (b2.mono (by omega))
  have hz2 := b2.size
  clear b2 hbx h hes
  have hy1 : w.heap.size + 1 < w2.heap.size := by omega
  go_wp2_with fail
  clear hy1
  obtain ⟨w3, hw1⟩ : ∃ w3, w3 = w2.alloc (.cells #[.slice A2 es.length c2, .int .i64 a, .int .i64 b, .int .i64 z] 25) := ⟨_, rfl⟩
  have x0 : w3.cell? ⟨w2.heap.size, 0, none⟩ = some (.slice A2 es.length c2) := by rw [hw1]; go_simp
  have x1 : w3.cell? ⟨w2.heap.size, 1, none⟩ = some (.int .i64 a) := by rw [hw1]; go_simp
  have x2 : w3.cell? ⟨w2.heap.size, 2, none⟩ = some (.int .i64 b) := by rw [hw1]; go_simp
  have x3 : w3.cell? ⟨w2.heap.size, 3, none⟩ = some (.int .i64 z) := by rw [hw1]; go_simp
  have bx : Below w2.heap.size w2 w3 := by rw [hw1]; exact (Below.refl _ _).alloc (Nat.le_refl _) _
  have zx : w2.heap.size < w3.heap.size := by rw [hw1]; simp
  have HZx := Lib.hid (show w3.heap.size = w2.heap.size + 1 by rw [hw1]; simp)
  have fx0 : w3.frozen? ⟨w2.heap.size, 0, none⟩ = false := by rw [hw1]; go_simp
  have fx1 : w3.frozen? ⟨w2.heap.size, 1, none⟩ = false := by rw [hw1]; go_simp
  have fx2 : w3.frozen? ⟨w2.heap.size, 2, none⟩ = false := by rw [hw1]; go_simp
  have fx3 : w3.frozen? ⟨w2.heap.size, 3, none⟩ = false := by rw [hw1]; go_simp
  have Hx := Lib.hid (show w3.heap[w2.heap.size]? = some (.cells #[.slice A2 es.length c2, .int .i64 a, .int .i64 b, .int .i64 z] 25) by rw [hw1]; exact heap_alloc_new w2 _)
  rw [← hw1]
  clear hw1
  have ho3 := ho2.below bx (Nat.le_refl _)
  have hb3 := hb2.trans (bx.mono (by omega))
  replace c00 := keepB bx c00; replace c01 := keepB bx c01; replace c02 := keepB bx c02; replace c03 := keepB bx c03; replace c10 := keepB bx c10; replace c11 := keepB bx c11; replace c12 := keepB bx c12; replace c13 := keepB bx c13; replace c14 := keepB bx c14; replace c15 := keepB bx c15; replace c16 := keepB bx c16; replace c20 := keepB bx c20; replace c21 := keepB bx c21; replace c22 := keepB bx c22; replace c23 := keepB bx c23
  replace f20 := keepF bx (by first | (simp; done) | (simp; omega)) f20; replace f21 := keepF bx (by first | (simp; done) | (simp; omega)) f21; replace f22 := keepF bx (by first | (simp; done) | (simp; omega)) f22; replace f23 := keepF bx (by first | (simp; done) | (simp; omega)) f23
  obtain ⟨T6, hT6⟩ : ∃ T6, T6 = w2.heap.size := ⟨_, rfl⟩
  rw [← hT6] at x0 x1 x2 x3 fx0 fx1 fx2 fx3 ho3 zx hz2 Hx
  rw [← hT6]
  have HM3 : Hid (MB w3 T6 (.slice A2 es.length c2) a b z) := Hx
  clear bx hb2 ho2 hT6 Hx HZx
  refine (iEntryOf_any w1.heap.size T6 _ es a b z lb w3 ho3.es (by omega)).mono ?_
  rintro e w4 ⟨rfl, b4⟩
  have Ho4 := Lib.hid (ho3.below b4 (by omega))
  have Hb4 := Lib.hid (hb3.trans (b4.mono (by omega)))
  have hz4 := b4.size
  have HM4 := Lib.hid (HM3.out.below b4 zx)
  replace c00 := keepB b4 c00; replace c01 := keepB b4 c01; replace c02 := keepB b4 c02; replace c03 := keepB b4 c03; replace c10 := keepB b4 c10; replace c11 := keepB b4 c11; replace c12 := keepB b4 c12; replace c13 := keepB b4 c13; replace c14 := keepB b4 c14; replace c15 := keepB b4 c15; replace c16 := keepB b4 c16; replace c20 := keepB b4 c20; replace c21 := keepB b4 c21; replace c22 := keepB b4 c22; replace c23 := keepB b4 c23; replace x0 := keepB b4 x0; replace x1 := keepB b4 x1; replace x2 := keepB b4 x2; replace x3 := keepB b4 x3
  replace f20 := keepF b4 (by first | (simp; done) | (simp; omega)) f20; replace f21 := keepF b4 (by first | (simp; done) | (simp; omega)) f21; replace f22 := keepF b4 (by first | (simp; done) | (simp; omega)) f22; replace f23 := keepF b4 (by first | (simp; done) | (simp; omega)) f23; replace fx0 := keepF b4 (by first | (simp; done) | (simp; omega)) fx0; replace fx1 := keepF b4 (by first | (simp; done) | (simp; omega)) fx1; replace fx2 := keepF b4 (by first | (simp; done) | (simp; omega)) fx2; replace fx3 := keepF b4 (by first | (simp; done) | (simp; omega)) fx3
  clear b4 ho3 hb3 HM3
  have hT1 : w.heap.size + 1 + 1 < T6 := by omega
  have hTn : ¬ w.heap.size + 1 + 1 = T6 := by omega
  have hTn2 : ¬ T6 = w.heap.size + 1 + 1 := by omega
  have hTm : ¬ w.heap.size + 1 = T6 := by omega
  have hTm2 : ¬ T6 = w.heap.size + 1 := by omega
  have hT4 : T6 < w4.heap.size := by omega
  have hT0 : w1.heap.size ≤ T6 := by omega
  obtain ⟨at9, hat⟩ : ∃ x, x = entI es lb := ⟨_, rfl⟩
  have Hat := Lib.hid hat
  rw [← hat]
  clear hat
  by_cases hk0 : k = 0
  · subst hk0
    go_wp2_with fail
    refine (iAddReel_any w1.heap.size T6 T6 _ es a b z lb r t w4 Ho4.out HM4.out hT0 (Nat.le_refl _) (by omega) ha9 H64.out.2.1).mono ?_
    rintro e wk ⟨b5, ⟨hyes, rfl, v5, ho5, hm5⟩ | ⟨hno, rfl⟩⟩
    · have HC := Lib.hid (apE_in (m := ⟨es, a, b, z⟩) (e := ⟨0, lb, l, r, f, t, g⟩) rfl hyes.1 hyes.2)
      dsimp only at HC
      have hr0 : 0 ≤ r * t := Int.mul_nonneg (by omega) (by omega)
      have hr1 : r * t ≤ 60 * 400 := Int.mul_le_mul (by omega) (by omega) (by omega) (by omega)
      obtain ⟨A5, c5, hv5, _⟩ := ho5.form
      obtain ⟨es5, he5⟩ : ∃ x, x = insI ⟨lb, r, t, [], []⟩ es := ⟨_, rfl⟩
      rw [← he5] at hv5 ho5 HC
      obtain ⟨n5, hn5⟩ : ∃ x, x = es5.length := ⟨_, rfl⟩
      rw [← hn5] at hv5
      subst hv5
      obtain ⟨a5, ha5⟩ : ∃ x, x = a + r * t := ⟨_, rfl⟩
      rw [← ha5] at HC hm5
      have ha59 : 0 ≤ a5 ∧ a5 ≤ 1000000 := by omega
      replace c20 := keepC b5 (by first | (simp; done) | (simp; omega)) c20; replace c21 := keepC b5 (by first | (simp; done) | (simp; omega)) c21; replace c22 := keepC b5 (by first | (simp; done) | (simp; omega)) c22; replace c23 := keepC b5 (by first | (simp; done) | (simp; omega)) c23
      replace f20 := keepF b5 (by first | (simp; done) | (simp; omega)) f20; replace f21 := keepF b5 (by first | (simp; done) | (simp; omega)) f21; replace f22 := keepF b5 (by first | (simp; done) | (simp; omega)) f22; replace f23 := keepF b5 (by first | (simp; done) | (simp; omega)) f23
      have Hb5 := Lib.hid (Hb4.out.trans (b5.mono (by omega)))
      have hz5 := b5.size
      have Ho5 := Lib.hid ho5
      have Hm5 := Lib.hid hm5
      have hT5 := hm5.lt
      clear b5 he5 hn5 ha5 hyes hr0 hr1 ho5 hm5 c00 c01 c02 c03 c10 c11 c12 c13 c14 c15 c16 x0 x1 x2 x3 fx0 fx1 fx2 fx3 HM4 Ho4 Hb4
      obtain ⟨⟨y0, y1, y2, y3⟩, _⟩ := Hm5.out.cells
      have hs5 : w1.heap.size ≤ wk.heap.size := by omega
      go_wp2_with fail
      refine (ValidMill_any w1.heap.size wk.heap.size _ es5 a5 b z wk (Ho5.out.es) (Nat.le_refl _) ⟨⟨by omega, by omega⟩, ⟨by omega, by omega⟩, ⟨by omega, by omega⟩⟩).mono ?_
      rintro e wv ⟨rfl, bv⟩
      replace c20 := keepB bv c20; replace c21 := keepB bv c21; replace c22 := keepB bv c22; replace c23 := keepB bv c23; replace y0 := keepB bv y0; replace y1 := keepB bv y1; replace y2 := keepB bv y2; replace y3 := keepB bv y3
      replace f20 := keepF bv (by first | (simp; done) | (simp; omega)) f20; replace f21 := keepF bv (by first | (simp; done) | (simp; omega)) f21; replace f22 := keepF bv (by first | (simp; done) | (simp; omega)) f22; replace f23 := keepF bv (by first | (simp; done) | (simp; omega)) f23
      have Hbv := Lib.hid (Hb5.out.trans (bv.mono (by have := Hb5.out.size; omega)))
      have Hov := Lib.hid ((Ho5.out.below bv (Nat.le_refl _)).wide (Nat.le_refl _) bv.size)
      have hszv : w1.heap.size ≤ wv.heap.size := by have := bv.size; omega
      clear bv Hb5 Ho5 Hm5
      cases hv : vMill es5 a5 b z
      · have HR := Lib.hid (HM.out.trans (HC.out.trans (chk_none (m := ⟨es5, a5, b, z⟩) hv)))
        clear HC hv
        go_wp2
        refine bodyPost_ret (v := .tuple #[.agg #[.slice none 0 0, .int .i64 0, .int .i64 0, .int .i64 0], .bool false]) (by simp [results, Tryz.results13, go_sem, *]) rfl ?_
        rw [HR.out]
        exact OpPost.none (((((Hbv.out.setCell (p := ⟨_, _, _⟩) (by simp; omega) _).setCell (p := ⟨_, _, _⟩) (by simp; omega) _).setCell (p := ⟨_, _, _⟩) (by simp; omega) _).setCell (p := ⟨_, _, _⟩) (by simp; omega) _))
      · have HR := Lib.hid (HM.out.trans (HC.out.trans (chk_yes (m := ⟨es5, a5, b, z⟩) hv)))
        clear HC hv
        obtain ⟨w9, hw9⟩ : ∃ w9, w9 = (((wv.setCell ⟨w.heap.size + 1 + 1, 0, none⟩ (.slice A5 n5 c5)).setCell ⟨w.heap.size + 1 + 1, 1, none⟩ (.int .i64 a5)).setCell ⟨w.heap.size + 1 + 1, 2, none⟩ (.int .i64 b)).setCell ⟨w.heap.size + 1 + 1, 3, none⟩ (.int .i64 z) := ⟨_, rfl⟩
        have HE9 := Lib.hid (show OwnE w9 w1.heap.size wv.heap.size 58 92 38 (.slice A5 n5 c5) es5 by
          rw [hw9]
          exact Hov.out.kept fun q hq _ => by have := HZ.out; simp only [World.setCell, Array.getElem?_modify, if_neg (show ¬ w.heap.size + 1 + 1 = q by omega)])
        have HB9 := Lib.hid (show Below w.heap.size w w9 by rw [hw9]; exact (((Hbv.out.setCell (p := ⟨_, _, _⟩) (by simp; omega) _).setCell (p := ⟨_, _, _⟩) (by simp; omega) _).setCell (p := ⟨_, _, _⟩) (by simp; omega) _).setCell (p := ⟨_, _, _⟩) (by simp; omega) _)
        have HZ9 := Lib.hid (show w9.heap.size = wv.heap.size by rw [hw9]; simp [World.setCell])
        have Hw9 := Lib.hid hw9
        clear hw9
        go_wp2
        refine bodyPost_ret (v := .tuple #[.agg #[(.slice A5 n5 c5), .int .i64 a5, .int .i64 b, .int .i64 z], .bool true]) (by simp [results, Tryz.results13, go_sem, *]) rfl ?_
        rw [← Hw9.out, HR.out]
        exact OpPost.some HB9.out (HE9.out.wide (by have := HZ.out; omega) (by have := HZ9.out; omega))
    · have HR := Lib.hid (show apV ⟨es, a, b, z⟩ ⟨0, lb, l, r, f, t, g⟩ = none from HM.out.trans (by
        by_cases hin : (1 ≤ r ∧ r ≤ 60) ∧ (1 ≤ t ∧ t ≤ 400)
        · exact apE_dup rfl (by
            rcases Int.lt_or_le (entI es lb) 0 with h9 | h9
            · exact absurd ⟨hin, h9⟩ hno
            · exact h9)
        · exact apE_out rfl hin))
      replace c20 := keepC b5 (by first | (simp; done) | (simp; omega)) c20; replace c21 := keepC b5 (by first | (simp; done) | (simp; omega)) c21; replace c22 := keepC b5 (by first | (simp; done) | (simp; omega)) c22; replace c23 := keepC b5 (by first | (simp; done) | (simp; omega)) c23
      replace f20 := keepF b5 (by first | (simp; done) | (simp; omega)) f20; replace f21 := keepF b5 (by first | (simp; done) | (simp; omega)) f21; replace f22 := keepF b5 (by first | (simp; done) | (simp; omega)) f22; replace f23 := keepF b5 (by first | (simp; done) | (simp; omega)) f23
      have Hb5 := Lib.hid (Hb4.out.trans (b5.mono (by omega)))
      clear b5 hno c00 c01 c02 c03 c10 c11 c12 c13 c14 c15 c16 x0 x1 x2 x3 fx0 fx1 fx2 fx3 HM4 Ho4 Hb4
      go_wp2
      refine bodyPost_ret (v := .tuple #[.agg #[.slice none 0 0, .int .i64 0, .int .i64 0, .int .i64 0], .bool false]) (by simp [results, Tryz.results13, go_sem, *]) rfl ?_
      rw [HR.out]
      exact OpPost.none (((((Hb5.out.setCell (p := ⟨_, _, _⟩) (by simp; omega) _).setCell (p := ⟨_, _, _⟩) (by simp; omega) _).setCell (p := ⟨_, _, _⟩) (by simp; omega) _).setCell (p := ⟨_, _, _⟩) (by simp; omega) _))
  · have hkb : (k == 0) = false := beq_f hk0
    have hkn : (k != 0) = true := by rw [bne, hkb]; rfl
    rcases entI_rng es lb with hneg | ⟨i, hi, hi9⟩
    · have HR := Lib.hid (HM.out.trans (apE_gone (m := ⟨es, a, b, z⟩) (e := ⟨k, lb, l, r, f, t, g⟩) hk0 hneg))
      rw [← Hat.out] at hneg
      clear hk0
      go_wp2
      refine bodyPost_ret (v := .tuple #[.agg #[.slice none 0 0, .int .i64 0, .int .i64 0, .int .i64 0], .bool false]) (by simp [results, Tryz.results13, go_sem, *]) rfl ?_
      rw [HR.out]
      exact OpPost.none (((((Hb4.out.setCell (p := ⟨_, _, _⟩) (by simp; omega) _).setCell (p := ⟨_, _, _⟩) (by simp; omega) _).setCell (p := ⟨_, _, _⟩) (by simp; omega) _).setCell (p := ⟨_, _, _⟩) (by simp; omega) _))
    · obtain rfl : at9 = (i : Int) := Hat.out.trans hi
      have hin : ¬ (i : Int) < 0 := by omega
      have hge : ¬ entI es lb < 0 := by rw [hi]; exact hin
      have HtN := Lib.hid (show (entI es lb).toNat = i by rw [hi]; exact Int.toNat_natCast i)
      have hi0 : (0 : Int) ≤ (i : Int) := by omega
      have hi1 : (i : Int) < (es.length : Int) := by omega
      have HVE := Lib.hid (HEn.out i hi9).1
      have HI := Lib.hid hi
      clear hi
      by_cases hk1 : k = 1
      · subst hk1
        have HC := Lib.hid (show apE ⟨es, a, b, z⟩ ⟨1, lb, l, r, f, t, g⟩ = chk ⟨es.set i { ge es i with ds := (ge es i).ds ++ [[l, r, f, t, g]] }, a, b, z⟩ by
          unfold apE
          rw [if_neg hk0, if_neg hge, if_pos rfl]
          dsimp only
          rw [HtN.out])
        clear hge hk0
        obtain ⟨g0, Ad, cd, hA2, hg1, hg2, q0, fq0, hod, hob, hput⟩ := Ho4.out.dsAt hi9 (by decide) (by decide) (by decide)
        subst hA2
        obtain ⟨es5, he5⟩ : ∃ x, x = es.set i { ge es i with ds := (ge es i).ds ++ [[l, r, f, t, g]] } := ⟨_, rfl⟩
        rw [← he5] at HC
        have Hpt := Lib.hid (fun w1 d ds s (hd : ds = (ge es i).ds ++ [[l, r, f, t, g]]) => hput w1 d ds s)
        have Hlen := Lib.hid (show (ge es i).ds.length ≤ 1000 from (HSz.out i hi9).1)
        obtain ⟨dl, hdl⟩ : ∃ x, x = (ge es i).ds := ⟨_, rfl⟩
        rw [← hdl] at q0 hod hob Hpt Hlen
        have Hdl := Lib.hid hdl
        obtain ⟨nd, hnd⟩ : ∃ x, x = dl.length := ⟨_, rfl⟩
        rw [← hnd] at q0 hod hob Hpt Hlen
        have hnl : nd ≤ 1000 := Hlen.out
        have Hnd := Lib.hid hnd
        have Hod := Lib.hid hod
        have Hob := Lib.hid hob
        have He5 := Lib.hid he5
        have hgT : ¬ T6 = g0 := by omega
        have hgT2 : ¬ g0 = T6 := by omega
        have hgw : ¬ w.heap.size + 1 + 1 = g0 := by omega
        have hgw2 : ¬ g0 = w.heap.size + 1 + 1 := by omega
        clear hput hdl hnd hod hob he5 hin
        go_wp2
        refine wp_region_last (S := fun w' => w'.cell? ⟨w.heap.size + 1, 2, none⟩ = some (.int .i64 l) ∧ w'.cell? ⟨w.heap.size + 1, 3, none⟩ = some (.int .i64 r) ∧ w'.cell? ⟨w.heap.size + 1, 4, none⟩ = some (.int .i64 f) ∧ w'.cell? ⟨w.heap.size + 1, 5, none⟩ = some (.int .i64 t) ∧ w'.cell? ⟨w.heap.size + 1, 6, none⟩ = some (.int .i64 g) ∧ w'.cell? ⟨g0, i * 5 + 3, none⟩ = some (.slice Ad nd cd)) 24 (by kernel_rfl) ?_ (fun hHeld => ?_)
        · (first | (try dsimp only); go_keep | (go_split_ands; refine ⟨?_, ?_, ?_, ?_, ?_, ?_⟩ <;> first | exact keepB bx1 (by assumption) | assumption))
        refine AnyL.take (i := 0) (oi := ⟨some 51, _, _, _, _, _⟩) (v := _) rfl (by kernel_rfl) (by kernel_rfl) (by kernel_rfl) (by kernel_rfl) (fun _ _ _ h => h) (Or.inl ⟨by kernel_rfl, by intro w hSw; (try dsimp only at hSw); go_simp; try with_reducible rfl⟩) (by assumption) ?_
        simp only [Act.put, lyA, lyB, lyC]
        refine AnyL.take (i := 1) (oi := ⟨some 52, _, _, _, _, _⟩) (v := _) rfl (by kernel_rfl) (by kernel_rfl) (by kernel_rfl) (by kernel_rfl) (fun _ _ _ h => h) (Or.inl ⟨by kernel_rfl, by intro w hSw; (try dsimp only at hSw); go_simp; try with_reducible rfl⟩) (by assumption) ?_
        simp only [Act.put, lyA, lyB, lyC]
        refine AnyL.take (i := 2) (oi := ⟨some 53, _, _, _, _, _⟩) (v := _) rfl (by kernel_rfl) (by kernel_rfl) (by kernel_rfl) (by kernel_rfl) (fun _ _ _ h => h) (Or.inl ⟨by kernel_rfl, by intro w hSw; (try dsimp only at hSw); go_simp; try with_reducible rfl⟩) (by assumption) ?_
        simp only [Act.put, lyA, lyB, lyC]
        refine AnyL.take (i := 3) (oi := ⟨some 54, _, _, _, _, _⟩) (v := _) rfl (by kernel_rfl) (by kernel_rfl) (by kernel_rfl) (by kernel_rfl) (fun _ _ _ h => h) (Or.inl ⟨by kernel_rfl, by intro w hSw; (try dsimp only at hSw); go_simp; try with_reducible rfl⟩) (by assumption) ?_
        simp only [Act.put, lyA, lyB, lyC]
        refine AnyL.take (i := 4) (oi := ⟨some 55, _, _, _, _, _⟩) (v := _) rfl (by kernel_rfl) (by kernel_rfl) (by kernel_rfl) (by kernel_rfl) (fun _ _ _ h => h) (Or.inl ⟨by kernel_rfl, by intro w hSw; (try dsimp only at hSw); go_simp; try with_reducible rfl⟩) (by assumption) ?_
        simp only [Act.put, lyA, lyB, lyC]
        refine AnyL.take (i := 5) (oi := ⟨some 56, _, _, _, _, _⟩) (v := _) rfl (by kernel_rfl) (by kernel_rfl) (by kernel_rfl) (by kernel_rfl) (fun _ _ _ h => h) (Or.inl ⟨by kernel_rfl, by intro w hSw; (try dsimp only at hSw); go_simp; try with_reducible rfl⟩) (by assumption) ?_
        simp only [Act.put, lyA, lyB, lyC]
        refine AnyL.take (i := 6) (oi := ⟨some 57, _, _, _, _, _⟩) (v := _) rfl (by kernel_rfl) (by kernel_rfl) (by kernel_rfl) (by kernel_rfl) (fun _ _ _ h => h) (Or.inl ⟨by kernel_rfl, by intro w hSw; (try dsimp only at hSw); go_simp; try with_reducible rfl⟩) (by assumption) ?_
        simp only [Act.put, lyA, lyB, lyC]
        refine AnyL.take (i := 7) (oi := ⟨some 58, _, _, _, _, _⟩) (v := _) rfl (by kernel_rfl) (by kernel_rfl) (by kernel_rfl) (by kernel_rfl) (fun _ _ _ h => h) (Or.inl ⟨by kernel_rfl, by intro w hSw; (try dsimp only at hSw); go_simp; try with_reducible rfl⟩) (by assumption) ?_
        simp only [Act.put, lyA, lyB, lyC]
        refine AnyL.take (i := 8) (oi := ⟨some 59, _, _, _, _, _⟩) (v := _) rfl (by kernel_rfl) (by kernel_rfl) (by kernel_rfl) (by kernel_rfl) (fun _ _ _ h => h) (Or.inl ⟨by kernel_rfl, by intro w hSw; (try dsimp only at hSw); go_simp; try with_reducible rfl⟩) (by assumption) ?_
        simp only [Act.put, lyA, lyB, lyC]
        refine AnyL.take (i := 9) (oi := ⟨some 60, _, _, _, _, _⟩) (v := _) rfl (by kernel_rfl) (by kernel_rfl) (by kernel_rfl) (by kernel_rfl) (fun _ _ _ h => h) (Or.inl ⟨by kernel_rfl, by intro w hSw; (try dsimp only at hSw); go_simp; try with_reducible rfl⟩) (by assumption) ?_
        simp only [Act.put, lyA, lyB, lyC]
        refine AnyL.take (i := 10) (oi := ⟨some 61, _, _, _, _, _⟩) (v := _) rfl (by kernel_rfl) (by kernel_rfl) (by kernel_rfl) (by kernel_rfl) (fun _ _ _ h => h) (Or.inl ⟨by kernel_rfl, by intro w hSw; (try dsimp only at hSw); go_simp; try with_reducible rfl⟩) (by assumption) ?_
        simp only [Act.put, lyA, lyB, lyC]
        refine AnyL.take (i := 11) (oi := ⟨some 62, _, _, _, _, _⟩) (v := _) rfl (by kernel_rfl) (by kernel_rfl) (by kernel_rfl) (by kernel_rfl) (fun _ _ _ h => h) (Or.inl ⟨by kernel_rfl, by intro w hSw; (try dsimp only at hSw); go_simp; try with_reducible rfl⟩) (by assumption) ?_
        simp only [Act.put, lyA, lyB, lyC]
        refine AnyL.take (i := 12) (oi := ⟨some 63, _, _, _, _, _⟩) (v := _) rfl (by kernel_rfl) (by kernel_rfl) (by kernel_rfl) (by kernel_rfl) (fun _ _ _ h => h) (Or.inl ⟨by kernel_rfl, by intro w hSw; (try dsimp only at hSw); go_simp; try with_reducible rfl⟩) (by assumption) ?_
        simp only [Act.put, lyA, lyB, lyC]
        refine AnyL.take (i := 13) (oi := ⟨some 64, _, _, _, _, _⟩) (v := _) rfl (by kernel_rfl) (by kernel_rfl) (by kernel_rfl) (by kernel_rfl) (fun _ _ _ h => h) (Or.inl ⟨by kernel_rfl, by intro w hSw; (try dsimp only at hSw); go_simp; try with_reducible rfl⟩) (by assumption) ?_
        simp only [Act.put, lyA, lyB, lyC]
        refine AnyL.take (i := 14) (oi := ⟨some 65, _, _, _, _, _⟩) (v := _) rfl (by kernel_rfl) (by kernel_rfl) (by kernel_rfl) (by kernel_rfl) (fun _ _ _ h => h) (Or.inl ⟨by kernel_rfl, by intro w hSw; (try dsimp only at hSw); go_simp; try with_reducible rfl⟩) (by assumption) ?_
        simp only [Act.put, lyA, lyB, lyC]
        refine AnyL.take (i := 15) (oi := ⟨some 66, _, _, _, _, _⟩) (v := _) rfl (by kernel_rfl) (by kernel_rfl) (by kernel_rfl) (by kernel_rfl) (fun _ _ _ h => h) (Or.inl ⟨by kernel_rfl, by intro w hSw; (try dsimp only at hSw); go_simp; try with_reducible rfl⟩) (by assumption) ?_
        simp only [Act.put, lyA, lyB, lyC]
        refine AnyL.take (i := 16) (oi := ⟨some 67, _, _, _, _, _⟩) (v := _) rfl (by kernel_rfl) (by kernel_rfl) (by kernel_rfl) (by kernel_rfl) (fun _ _ _ h => h) (Or.inl ⟨by kernel_rfl, by intro w hSw; (try dsimp only at hSw); go_simp; try with_reducible rfl⟩) (by assumption) ?_
        simp only [Act.put, lyA, lyB, lyC]
        refine AnyL.take (i := 17) (oi := ⟨some 68, _, _, _, _, _⟩) (v := _) rfl (by kernel_rfl) (by kernel_rfl) (by kernel_rfl) (by kernel_rfl) (fun _ _ _ h => h) (Or.inl ⟨by kernel_rfl, by intro w hSw; (try dsimp only at hSw); go_simp; try with_reducible rfl⟩) (by assumption) ?_
        simp only [Act.put, lyA, lyB, lyC]
        refine AnyL.take (i := 18) (oi := ⟨some 69, _, _, _, _, _⟩) (v := _) rfl (by kernel_rfl) (by kernel_rfl) (by kernel_rfl) (by kernel_rfl) (fun _ _ _ h => h) (Or.inl ⟨by kernel_rfl, by intro w hSw; (try dsimp only at hSw); go_simp; try with_reducible rfl⟩) (by assumption) ?_
        simp only [Act.put, lyA, lyB, lyC]
        refine AnyL.take (i := 19) (oi := ⟨some 70, _, _, _, _, _⟩) (v := _) rfl (by kernel_rfl) (by kernel_rfl) (by kernel_rfl) (by kernel_rfl) (fun _ _ _ h => h) (Or.inl ⟨by kernel_rfl, by intro w hSw; (try dsimp only at hSw); go_simp; try with_reducible rfl⟩) (by assumption) ?_
        simp only [Act.put, lyA, lyB, lyC]
        refine AnyL.one (i := 20) (o := ⟨some 71, _, _, _, _, _⟩) (by kernel_rfl) rfl (fun K hK => ?_)
        go_simp
        refine hK.out _ _ ?_ (fun hHeld2 => ?_)
        · (first | (try dsimp only); go_keep | (go_split_ands; refine ⟨?_, ?_, ?_, ?_, ?_, ?_⟩ <;> first | exact keepB bx1 (by assumption) | assumption))
        clear hK K hHeld
        have hHeld := hHeld2
        clear hHeld2
        try simp only [Act.put, lyA, lyB, lyC]
        refine AnyL.one (i := 21) (o := ⟨some 72, _, _, _, _, _⟩) (by kernel_rfl) rfl (fun K hK => ?_)
        refine step_appendT' SlDefect w4.drew rfl (.tmp 55) (.tmp 71) rfl [l, r, f, t, g] _ rfl w1.heap.size (.slice Ad nd cd) dl (by rfl) (by rfl) Hod.out ⟨rfl, i64_5M H64.out.2.2.1 H64.out.2.2.2.1 H64.out.2.2.2.2.1 H64.out.2.2.2.2.2.1 H64.out.2.2.2.2.2.2⟩ (by rw [← Hnd.out]; omega) (by rw [← Hnd.out]; omega) (by simp; omega) ?_
        intro v5 w6 ho6 hg6 hb6
        obtain ⟨A5, c5, hv5, _⟩ := ho6.form
        obtain ⟨n5, hn5⟩ : ∃ x, x = (dl ++ [[l, r, f, t, g]]).length := ⟨_, rfl⟩
        rw [← hn5] at hv5
        subst hv5
        clear hn5
        have eT := hg6.other T6 (by simp; omega) (fun e => by have := (Hob.out _ e.symm).1; omega)
        have eg := hg6.other g0 (by simp; omega) (fun e => (Hob.out _ e.symm).2 rfl)
        replace q0 := cell_same eg q0
        replace fq0 := frozen_same eg fq0
        have b6 : Below w1.heap.size w4 w6 := below_drew hg6.below
        replace c20 := keepC b6 (by first | (simp; done) | (simp; omega)) c20; replace c21 := keepC b6 (by first | (simp; done) | (simp; omega)) c21; replace c22 := keepC b6 (by first | (simp; done) | (simp; omega)) c22; replace c23 := keepC b6 (by first | (simp; done) | (simp; omega)) c23
        replace f20 := keepF b6 (by first | (simp; done) | (simp; omega)) f20; replace f21 := keepF b6 (by first | (simp; done) | (simp; omega)) f21; replace f22 := keepF b6 (by first | (simp; done) | (simp; omega)) f22; replace f23 := keepF b6 (by first | (simp; done) | (simp; omega)) f23
        replace c12 := keepC b6 (by first | (simp; done) | (simp; omega)) c12; replace c13 := keepC b6 (by first | (simp; done) | (simp; omega)) c13; replace c14 := keepC b6 (by first | (simp; done) | (simp; omega)) c14; replace c15 := keepC b6 (by first | (simp; done) | (simp; omega)) c15; replace c16 := keepC b6 (by first | (simp; done) | (simp; omega)) c16
        have Hm6 := Lib.hid (HM4.out.kept (w' := w6) eT)
        have Hb6 := Lib.hid (Hb4.out.trans (b6.mono (by omega)))
        have hz6 : w4.heap.size ≤ w6.heap.size := by have := hg6.size; simpa using this
        have HP6 := Lib.hid (Hpt.out w6 _ _ w6.heap.size (by rw [Hdl.out]) ho6 (fun q hq hne => hg6.other q hq hne) (fun q hq => ⟨by rcases hb6 with e | e; exact .inl (e ▸ hq); exact .inr (by rw [e] at hq; injection hq with hq; simp at hq; omega), (ho6.lt q hq).2⟩) (by omega))
        clear ho6 hg6 hb6 eT eg b6 Hod Hb4
        refine hK.out _ _ ?_ (fun hHeld2 => ?_)
        · (first | (try dsimp only); go_keep | (go_split_ands; refine ⟨?_, ?_, ?_, ?_, ?_, ?_⟩ <;> first | exact keepB bx1 (by assumption) | assumption))
        clear hK K hHeld
        have hHeld := hHeld2
        clear hHeld2
        try simp only [Act.put, lyA, lyB, lyC]
        refine AnyL.one (i := 22) (o := ⟨some 73, _, _, _, _, _⟩) (by kernel_rfl) rfl (fun K hK => ?_)
        go_simp
        refine hK.out _ _ ?_ (fun hHeld2 => ?_)
        · (first | (try dsimp only); go_keep | (go_split_ands; refine ⟨?_, ?_, ?_, ?_, ?_, ?_⟩ <;> first | exact keepB bx1 (by assumption) | assumption))
        clear hK K hHeld
        have hHeld := hHeld2
        clear hHeld2
        try simp only [Act.put, lyA, lyB, lyC]
        refine AnyL.one (i := 23) (o := ⟨some 74, _, _, _, _, _⟩) (by kernel_rfl) rfl (fun K hK => ?_)
        go_simp
        refine hK.out _ _ ?_ (fun hHeld2 => ?_)
        · (first | (try dsimp only); go_keep | (go_split_ands; refine ⟨?_, ?_, ?_, ?_, ?_, ?_⟩ <;> first | exact keepB bx1 (by assumption) | assumption))
        clear hK K hHeld
        have hHeld := hHeld2
        clear hHeld2
        try simp only [Act.put, lyA, lyB, lyC]
        refine AnyL.last (o := ⟨none, _, _, _, _, _⟩) (by kernel_rfl) rfl (by kernel_rfl) (fun K hK => ?_)
        go_simp
        refine hK.out _ _ ?_
        clear hK K hHeld
        obtain ⟨wk, hwk⟩ : ∃ wk, wk = w6.setCell ⟨g0, i * 5 + 3, none⟩ (.slice A5 n5 c5) := ⟨_, rfl⟩
        have ex : ∀ q, ¬ g0 = q → wk.heap[q]? = w6.heap[q]? := fun q hq => by rw [hwk]; simp only [World.setCell, Array.getElem?_modify, if_neg hq]
        have zx5 : wk.heap.size = w6.heap.size := by rw [hwk]; simp [World.setCell]
        replace c20 := cell_same (ex _ hgw2) c20
        replace c21 := cell_same (ex _ hgw2) c21
        replace c22 := cell_same (ex _ hgw2) c22
        replace c23 := cell_same (ex _ hgw2) c23
        replace f20 := frozen_same (ex _ hgw2) f20
        replace f21 := frozen_same (ex _ hgw2) f21
        replace f22 := frozen_same (ex _ hgw2) f22
        replace f23 := frozen_same (ex _ hgw2) f23
        have Ho5 := Lib.hid (show OwnE wk w1.heap.size wk.heap.size 58 92 38 (.slice (some ⟨g0, 0, none⟩) es.length c2) es5 from by rw [zx5]; have h9 := HP6.out; rw [← hwk] at h9; rw [He5.out, ← Hdl.out]; exact h9)
        have Hm5 := Lib.hid (Hm6.out.kept (ex _ hgT2))
        have Hb5 := Lib.hid (show Below w.heap.size w wk by rw [hwk]; exact Hb6.out.setCell (p := ⟨_, _, _⟩) (by show w.heap.size ≤ g0; omega) _)
        have hT5 : T6 < wk.heap.size := by omega
        rw [← hwk]
        clear hwk ex Hb6 HP6 q0 fq0 c12 c13 c14 c15 c16 Hm6 x0 x1 x2 x3 fx0 fx1 fx2 fx3 HM4 c00 c01 c02 c03 c10 c11
        obtain ⟨⟨y0, y1, y2, y3⟩, _⟩ := Hm5.out.cells
        have hs5 : w1.heap.size ≤ wk.heap.size := by omega
        go_wp2_with fail
        refine (ValidMill_any w1.heap.size wk.heap.size _ es5 a b z wk (Ho5.out.es) (Nat.le_refl _) ⟨⟨by omega, by omega⟩, ⟨by omega, by omega⟩, ⟨by omega, by omega⟩⟩).mono ?_
        rintro e wv ⟨rfl, bv⟩
        replace c20 := keepB bv c20; replace c21 := keepB bv c21; replace c22 := keepB bv c22; replace c23 := keepB bv c23; replace y0 := keepB bv y0; replace y1 := keepB bv y1; replace y2 := keepB bv y2; replace y3 := keepB bv y3
        replace f20 := keepF bv (by first | (simp; done) | (simp; omega)) f20; replace f21 := keepF bv (by first | (simp; done) | (simp; omega)) f21; replace f22 := keepF bv (by first | (simp; done) | (simp; omega)) f22; replace f23 := keepF bv (by first | (simp; done) | (simp; omega)) f23
        have Hbv := Lib.hid (Hb5.out.trans (bv.mono (by have := Hb5.out.size; omega)))
        have Hov := Lib.hid ((Ho5.out.below bv (Nat.le_refl _)).wide (Nat.le_refl _) bv.size)
        have hszv : w1.heap.size ≤ wv.heap.size := by have := bv.size; omega
        clear bv Hb5 Ho5 Hm5
        cases hv : vMill es5 a b z
        · have HR := Lib.hid (HM.out.trans (HC.out.trans (chk_none (m := ⟨es5, a, b, z⟩) hv)))
          clear HC hv
          go_wp2
          refine bodyPost_ret (v := .tuple #[.agg #[.slice none 0 0, .int .i64 0, .int .i64 0, .int .i64 0], .bool false]) (by simp [results, Tryz.results13, go_sem, *]) rfl ?_
          rw [HR.out]
          exact OpPost.none (((((Hbv.out.setCell (p := ⟨_, _, _⟩) (by simp; omega) _).setCell (p := ⟨_, _, _⟩) (by simp; omega) _).setCell (p := ⟨_, _, _⟩) (by simp; omega) _).setCell (p := ⟨_, _, _⟩) (by simp; omega) _))
        · have HR := Lib.hid (HM.out.trans (HC.out.trans (chk_yes (m := ⟨es5, a, b, z⟩) hv)))
          clear HC hv
          obtain ⟨w9, hw9⟩ : ∃ w9, w9 = (((wv.setCell ⟨w.heap.size + 1 + 1, 0, none⟩ (.slice (some ⟨g0, 0, none⟩) es.length c2)).setCell ⟨w.heap.size + 1 + 1, 1, none⟩ (.int .i64 a)).setCell ⟨w.heap.size + 1 + 1, 2, none⟩ (.int .i64 b)).setCell ⟨w.heap.size + 1 + 1, 3, none⟩ (.int .i64 z) := ⟨_, rfl⟩
          have HE9 := Lib.hid (show OwnE w9 w1.heap.size wv.heap.size 58 92 38 (.slice (some ⟨g0, 0, none⟩) es.length c2) es5 by
            rw [hw9]
            exact Hov.out.kept fun q hq _ => by have := HZ.out; simp only [World.setCell, Array.getElem?_modify, if_neg (show ¬ w.heap.size + 1 + 1 = q by omega)])
          have HB9 := Lib.hid (show Below w.heap.size w w9 by rw [hw9]; exact (((Hbv.out.setCell (p := ⟨_, _, _⟩) (by simp; omega) _).setCell (p := ⟨_, _, _⟩) (by simp; omega) _).setCell (p := ⟨_, _, _⟩) (by simp; omega) _).setCell (p := ⟨_, _, _⟩) (by simp; omega) _)
          have HZ9 := Lib.hid (show w9.heap.size = wv.heap.size by rw [hw9]; simp [World.setCell])
          have Hw9 := Lib.hid hw9
          clear hw9
          go_wp2
          refine bodyPost_ret (v := .tuple #[.agg #[(.slice (some ⟨g0, 0, none⟩) es.length c2), .int .i64 a, .int .i64 b, .int .i64 z], .bool true]) (by simp [results, Tryz.results13, go_sem, *]) rfl ?_
          rw [← Hw9.out, HR.out]
          exact OpPost.some HB9.out (HE9.out.wide (by have := HZ.out; omega) (by have := HZ9.out; omega))
      by_cases hk2 : k = 2
      · subst hk2
        have HC := Lib.hid (show apE ⟨es, a, b, z⟩ ⟨2, lb, l, r, f, t, g⟩ = chk ⟨es.set i { ge es i with ps := (ge es i).ps ++ [[l, r, f, t]] }, a, b, z⟩ by
          unfold apE
          rw [if_neg hk0, if_neg hge, if_neg hk1, if_pos rfl]
          dsimp only
          rw [HtN.out])
        clear hge hk0 hk1
        obtain ⟨g0, Ad, cd, hA2, hg1, hg2, q0, fq0, hod, hob, hput⟩ := Ho4.out.psAt hi9 (by decide) (by decide) (by decide)
        subst hA2
        obtain ⟨es5, he5⟩ : ∃ x, x = es.set i { ge es i with ps := (ge es i).ps ++ [[l, r, f, t]] } := ⟨_, rfl⟩
        rw [← he5] at HC
        have Hpt := Lib.hid (fun w1 d ds s (hd : ds = (ge es i).ps ++ [[l, r, f, t]]) => hput w1 d ds s)
        have Hlen := Lib.hid (show (ge es i).ps.length ≤ 1000 from (HSz.out i hi9).2)
        obtain ⟨dl, hdl⟩ : ∃ x, x = (ge es i).ps := ⟨_, rfl⟩
        rw [← hdl] at q0 hod hob Hpt Hlen
        have Hdl := Lib.hid hdl
        obtain ⟨nd, hnd⟩ : ∃ x, x = dl.length := ⟨_, rfl⟩
        rw [← hnd] at q0 hod hob Hpt Hlen
        have hnl : nd ≤ 1000 := Hlen.out
        have Hnd := Lib.hid hnd
        have Hod := Lib.hid hod
        have Hob := Lib.hid hob
        have He5 := Lib.hid he5
        have hgT : ¬ T6 = g0 := by omega
        have hgT2 : ¬ g0 = T6 := by omega
        have hgw : ¬ w.heap.size + 1 + 1 = g0 := by omega
        have hgw2 : ¬ g0 = w.heap.size + 1 + 1 := by omega
        clear hput hdl hnd hod hob he5 hin
        go_wp2
        refine wp_region_last (S := fun w' => w'.cell? ⟨w.heap.size + 1, 2, none⟩ = some (.int .i64 l) ∧ w'.cell? ⟨w.heap.size + 1, 3, none⟩ = some (.int .i64 r) ∧ w'.cell? ⟨w.heap.size + 1, 4, none⟩ = some (.int .i64 f) ∧ w'.cell? ⟨w.heap.size + 1, 5, none⟩ = some (.int .i64 t) ∧ w'.cell? ⟨g0, i * 5 + 4, none⟩ = some (.slice Ad nd cd)) 11 (by kernel_rfl) ?_ (fun hHeld => ?_)
        · (first | (try dsimp only); go_keep | (go_split_ands; refine ⟨?_, ?_, ?_, ?_, ?_⟩ <;> first | exact keepB bx1 (by assumption) | assumption))
        refine AnyL.take (i := 0) (oi := ⟨some 81, _, _, _, _, _⟩) (v := _) rfl (by kernel_rfl) (by kernel_rfl) (by kernel_rfl) (by kernel_rfl) (fun _ _ _ h => h) (Or.inl ⟨by kernel_rfl, by intro w hSw; (try dsimp only at hSw); go_simp; try with_reducible rfl⟩) (by assumption) ?_
        simp only [Act.put, lyA, lyB, lyC]
        refine AnyL.take (i := 1) (oi := ⟨some 82, _, _, _, _, _⟩) (v := _) rfl (by kernel_rfl) (by kernel_rfl) (by kernel_rfl) (by kernel_rfl) (fun _ _ _ h => h) (Or.inl ⟨by kernel_rfl, by intro w hSw; (try dsimp only at hSw); go_simp; try with_reducible rfl⟩) (by assumption) ?_
        simp only [Act.put, lyA, lyB, lyC]
        refine AnyL.take (i := 2) (oi := ⟨some 83, _, _, _, _, _⟩) (v := _) rfl (by kernel_rfl) (by kernel_rfl) (by kernel_rfl) (by kernel_rfl) (fun _ _ _ h => h) (Or.inl ⟨by kernel_rfl, by intro w hSw; (try dsimp only at hSw); go_simp; try with_reducible rfl⟩) (by assumption) ?_
        simp only [Act.put, lyA, lyB, lyC]
        refine AnyL.take (i := 3) (oi := ⟨some 84, _, _, _, _, _⟩) (v := _) rfl (by kernel_rfl) (by kernel_rfl) (by kernel_rfl) (by kernel_rfl) (fun _ _ _ h => h) (Or.inl ⟨by kernel_rfl, by intro w hSw; (try dsimp only at hSw); go_simp; try with_reducible rfl⟩) (by assumption) ?_
        simp only [Act.put, lyA, lyB, lyC]
        refine AnyL.take (i := 4) (oi := ⟨some 85, _, _, _, _, _⟩) (v := _) rfl (by kernel_rfl) (by kernel_rfl) (by kernel_rfl) (by kernel_rfl) (fun _ _ _ h => h) (Or.inl ⟨by kernel_rfl, by intro w hSw; (try dsimp only at hSw); go_simp; try with_reducible rfl⟩) (by assumption) ?_
        simp only [Act.put, lyA, lyB, lyC]
        refine AnyL.take (i := 5) (oi := ⟨some 86, _, _, _, _, _⟩) (v := _) rfl (by kernel_rfl) (by kernel_rfl) (by kernel_rfl) (by kernel_rfl) (fun _ _ _ h => h) (Or.inl ⟨by kernel_rfl, by intro w hSw; (try dsimp only at hSw); go_simp; try with_reducible rfl⟩) (by assumption) ?_
        simp only [Act.put, lyA, lyB, lyC]
        refine AnyL.take (i := 6) (oi := ⟨some 87, _, _, _, _, _⟩) (v := _) rfl (by kernel_rfl) (by kernel_rfl) (by kernel_rfl) (by kernel_rfl) (fun _ _ _ h => h) (Or.inl ⟨by kernel_rfl, by intro w hSw; (try dsimp only at hSw); go_simp; try with_reducible rfl⟩) (by assumption) ?_
        simp only [Act.put, lyA, lyB, lyC]
        refine AnyL.one (i := 7) (o := ⟨some 88, _, _, _, _, _⟩) (by kernel_rfl) rfl (fun K hK => ?_)
        go_simp
        refine hK.out _ _ ?_ (fun hHeld2 => ?_)
        · (first | (try dsimp only); go_keep | (go_split_ands; refine ⟨?_, ?_, ?_, ?_, ?_⟩ <;> first | exact keepB bx1 (by assumption) | assumption))
        clear hK K hHeld
        have hHeld := hHeld2
        clear hHeld2
        try simp only [Act.put, lyA, lyB, lyC]
        refine AnyL.one (i := 8) (o := ⟨some 89, _, _, _, _, _⟩) (by kernel_rfl) rfl (fun K hK => ?_)
        refine step_appendT' SlPart w4.drew rfl (.tmp 85) (.tmp 88) rfl [l, r, f, t] _ rfl w1.heap.size (.slice Ad nd cd) dl (by rfl) (by rfl) Hod.out ⟨rfl, i64_4M H64.out.2.2.1 H64.out.2.2.2.1 H64.out.2.2.2.2.1 H64.out.2.2.2.2.2.1⟩ (by rw [← Hnd.out]; omega) (by rw [← Hnd.out]; omega) (by simp; omega) ?_
        intro v5 w6 ho6 hg6 hb6
        obtain ⟨A5, c5, hv5, _⟩ := ho6.form
        obtain ⟨n5, hn5⟩ : ∃ x, x = (dl ++ [[l, r, f, t]]).length := ⟨_, rfl⟩
        rw [← hn5] at hv5
        subst hv5
        clear hn5
        have eT := hg6.other T6 (by simp; omega) (fun e => by have := (Hob.out _ e.symm).1; omega)
        have eg := hg6.other g0 (by simp; omega) (fun e => (Hob.out _ e.symm).2 rfl)
        replace q0 := cell_same eg q0
        replace fq0 := frozen_same eg fq0
        have b6 : Below w1.heap.size w4 w6 := below_drew hg6.below
        replace c20 := keepC b6 (by first | (simp; done) | (simp; omega)) c20; replace c21 := keepC b6 (by first | (simp; done) | (simp; omega)) c21; replace c22 := keepC b6 (by first | (simp; done) | (simp; omega)) c22; replace c23 := keepC b6 (by first | (simp; done) | (simp; omega)) c23
        replace f20 := keepF b6 (by first | (simp; done) | (simp; omega)) f20; replace f21 := keepF b6 (by first | (simp; done) | (simp; omega)) f21; replace f22 := keepF b6 (by first | (simp; done) | (simp; omega)) f22; replace f23 := keepF b6 (by first | (simp; done) | (simp; omega)) f23
        replace c12 := keepC b6 (by first | (simp; done) | (simp; omega)) c12; replace c13 := keepC b6 (by first | (simp; done) | (simp; omega)) c13; replace c14 := keepC b6 (by first | (simp; done) | (simp; omega)) c14; replace c15 := keepC b6 (by first | (simp; done) | (simp; omega)) c15
        have Hm6 := Lib.hid (HM4.out.kept (w' := w6) eT)
        have Hb6 := Lib.hid (Hb4.out.trans (b6.mono (by omega)))
        have hz6 : w4.heap.size ≤ w6.heap.size := by have := hg6.size; simpa using this
        have HP6 := Lib.hid (Hpt.out w6 _ _ w6.heap.size (by rw [Hdl.out]) ho6 (fun q hq hne => hg6.other q hq hne) (fun q hq => ⟨by rcases hb6 with e | e; exact .inl (e ▸ hq); exact .inr (by rw [e] at hq; injection hq with hq; simp at hq; omega), (ho6.lt q hq).2⟩) (by omega))
        clear ho6 hg6 hb6 eT eg b6 Hod Hb4
        refine hK.out _ _ ?_ (fun hHeld2 => ?_)
        · (first | (try dsimp only); go_keep | (go_split_ands; refine ⟨?_, ?_, ?_, ?_, ?_⟩ <;> first | exact keepB bx1 (by assumption) | assumption))
        clear hK K hHeld
        have hHeld := hHeld2
        clear hHeld2
        try simp only [Act.put, lyA, lyB, lyC]
        refine AnyL.one (i := 9) (o := ⟨some 90, _, _, _, _, _⟩) (by kernel_rfl) rfl (fun K hK => ?_)
        go_simp
        refine hK.out _ _ ?_ (fun hHeld2 => ?_)
        · (first | (try dsimp only); go_keep | (go_split_ands; refine ⟨?_, ?_, ?_, ?_, ?_⟩ <;> first | exact keepB bx1 (by assumption) | assumption))
        clear hK K hHeld
        have hHeld := hHeld2
        clear hHeld2
        try simp only [Act.put, lyA, lyB, lyC]
        refine AnyL.one (i := 10) (o := ⟨some 91, _, _, _, _, _⟩) (by kernel_rfl) rfl (fun K hK => ?_)
        go_simp
        refine hK.out _ _ ?_ (fun hHeld2 => ?_)
        · (first | (try dsimp only); go_keep | (go_split_ands; refine ⟨?_, ?_, ?_, ?_, ?_⟩ <;> first | exact keepB bx1 (by assumption) | assumption))
        clear hK K hHeld
        have hHeld := hHeld2
        clear hHeld2
        try simp only [Act.put, lyA, lyB, lyC]
        refine AnyL.last (o := ⟨none, _, _, _, _, _⟩) (by kernel_rfl) rfl (by kernel_rfl) (fun K hK => ?_)
        go_simp
        refine hK.out _ _ ?_
        clear hK K hHeld
        obtain ⟨wk, hwk⟩ : ∃ wk, wk = w6.setCell ⟨g0, i * 5 + 4, none⟩ (.slice A5 n5 c5) := ⟨_, rfl⟩
        have ex : ∀ q, ¬ g0 = q → wk.heap[q]? = w6.heap[q]? := fun q hq => by rw [hwk]; simp only [World.setCell, Array.getElem?_modify, if_neg hq]
        have zx5 : wk.heap.size = w6.heap.size := by rw [hwk]; simp [World.setCell]
        replace c20 := cell_same (ex _ hgw2) c20
        replace c21 := cell_same (ex _ hgw2) c21
        replace c22 := cell_same (ex _ hgw2) c22
        replace c23 := cell_same (ex _ hgw2) c23
        replace f20 := frozen_same (ex _ hgw2) f20
        replace f21 := frozen_same (ex _ hgw2) f21
        replace f22 := frozen_same (ex _ hgw2) f22
        replace f23 := frozen_same (ex _ hgw2) f23
        have Ho5 := Lib.hid (show OwnE wk w1.heap.size wk.heap.size 58 92 38 (.slice (some ⟨g0, 0, none⟩) es.length c2) es5 from by rw [zx5]; have h9 := HP6.out; rw [← hwk] at h9; rw [He5.out, ← Hdl.out]; exact h9)
        have Hm5 := Lib.hid (Hm6.out.kept (ex _ hgT2))
        have Hb5 := Lib.hid (show Below w.heap.size w wk by rw [hwk]; exact Hb6.out.setCell (p := ⟨_, _, _⟩) (by show w.heap.size ≤ g0; omega) _)
        have hT5 : T6 < wk.heap.size := by omega
        rw [← hwk]
        clear hwk ex Hb6 HP6 q0 fq0 c12 c13 c14 c15 Hm6 x0 x1 x2 x3 fx0 fx1 fx2 fx3 HM4 c00 c01 c02 c03 c10 c11
        obtain ⟨⟨y0, y1, y2, y3⟩, _⟩ := Hm5.out.cells
        have hs5 : w1.heap.size ≤ wk.heap.size := by omega
        go_wp2_with fail
        refine (ValidMill_any w1.heap.size wk.heap.size _ es5 a b z wk (Ho5.out.es) (Nat.le_refl _) ⟨⟨by omega, by omega⟩, ⟨by omega, by omega⟩, ⟨by omega, by omega⟩⟩).mono ?_
        rintro e wv ⟨rfl, bv⟩
        replace c20 := keepB bv c20; replace c21 := keepB bv c21; replace c22 := keepB bv c22; replace c23 := keepB bv c23; replace y0 := keepB bv y0; replace y1 := keepB bv y1; replace y2 := keepB bv y2; replace y3 := keepB bv y3
        replace f20 := keepF bv (by first | (simp; done) | (simp; omega)) f20; replace f21 := keepF bv (by first | (simp; done) | (simp; omega)) f21; replace f22 := keepF bv (by first | (simp; done) | (simp; omega)) f22; replace f23 := keepF bv (by first | (simp; done) | (simp; omega)) f23
        have Hbv := Lib.hid (Hb5.out.trans (bv.mono (by have := Hb5.out.size; omega)))
        have Hov := Lib.hid ((Ho5.out.below bv (Nat.le_refl _)).wide (Nat.le_refl _) bv.size)
        have hszv : w1.heap.size ≤ wv.heap.size := by have := bv.size; omega
        clear bv Hb5 Ho5 Hm5
        cases hv : vMill es5 a b z
        · have HR := Lib.hid (HM.out.trans (HC.out.trans (chk_none (m := ⟨es5, a, b, z⟩) hv)))
          clear HC hv
          go_wp2
          refine bodyPost_ret (v := .tuple #[.agg #[.slice none 0 0, .int .i64 0, .int .i64 0, .int .i64 0], .bool false]) (by simp [results, Tryz.results13, go_sem, *]) rfl ?_
          rw [HR.out]
          exact OpPost.none (((((Hbv.out.setCell (p := ⟨_, _, _⟩) (by simp; omega) _).setCell (p := ⟨_, _, _⟩) (by simp; omega) _).setCell (p := ⟨_, _, _⟩) (by simp; omega) _).setCell (p := ⟨_, _, _⟩) (by simp; omega) _))
        · have HR := Lib.hid (HM.out.trans (HC.out.trans (chk_yes (m := ⟨es5, a, b, z⟩) hv)))
          clear HC hv
          obtain ⟨w9, hw9⟩ : ∃ w9, w9 = (((wv.setCell ⟨w.heap.size + 1 + 1, 0, none⟩ (.slice (some ⟨g0, 0, none⟩) es.length c2)).setCell ⟨w.heap.size + 1 + 1, 1, none⟩ (.int .i64 a)).setCell ⟨w.heap.size + 1 + 1, 2, none⟩ (.int .i64 b)).setCell ⟨w.heap.size + 1 + 1, 3, none⟩ (.int .i64 z) := ⟨_, rfl⟩
          have HE9 := Lib.hid (show OwnE w9 w1.heap.size wv.heap.size 58 92 38 (.slice (some ⟨g0, 0, none⟩) es.length c2) es5 by
            rw [hw9]
            exact Hov.out.kept fun q hq _ => by have := HZ.out; simp only [World.setCell, Array.getElem?_modify, if_neg (show ¬ w.heap.size + 1 + 1 = q by omega)])
          have HB9 := Lib.hid (show Below w.heap.size w w9 by rw [hw9]; exact (((Hbv.out.setCell (p := ⟨_, _, _⟩) (by simp; omega) _).setCell (p := ⟨_, _, _⟩) (by simp; omega) _).setCell (p := ⟨_, _, _⟩) (by simp; omega) _).setCell (p := ⟨_, _, _⟩) (by simp; omega) _)
          have HZ9 := Lib.hid (show w9.heap.size = wv.heap.size by rw [hw9]; simp [World.setCell])
          have Hw9 := Lib.hid hw9
          clear hw9
          go_wp2
          refine bodyPost_ret (v := .tuple #[.agg #[(.slice (some ⟨g0, 0, none⟩) es.length c2), .int .i64 a, .int .i64 b, .int .i64 z], .bool true]) (by simp [results, Tryz.results13, go_sem, *]) rfl ?_
          rw [← Hw9.out, HR.out]
          exact OpPost.some HB9.out (HE9.out.wide (by have := HZ.out; omega) (by have := HZ9.out; omega))
      have hb1 : (k == 1) = false := beq_f hk1
      have hb2 : (k == 2) = false := beq_f hk2
      by_cases hk3 : k = 3
      · subst hk3
        have HC := Lib.hid (show apE ⟨es, a, b, z⟩ ⟨3, lb, l, r, f, t, g⟩ = chk ⟨es.eraseIdx i, a, b + goodA (ge es i) g, z + ((ge es i).W * (ge es i).L - goodA (ge es i) g)⟩ by
          unfold apE
          rw [if_neg hk0, if_neg hge, if_neg hk1, if_neg hk2, if_pos rfl]
          dsimp only
          rw [HtN.out])
        have hgl := good_le HVE.out g
        have har := area_rng HVE.out
        clear hge hk0 hk1 hk2
        go_wp2_with fail
        refine (iShipReel_any w1.heap.size T6 T6 _ es a b z g i w4 Ho4.out HM4.out hT0 (Nat.le_refl _) (by omega) hi9 HVE.out hb9 hz9).mono ?_
        rintro e wk ⟨rfl, b9, v5, ho5, hm5⟩
        obtain ⟨A5, c5, hv5, _⟩ := ho5.form
        obtain ⟨es5, he5⟩ : ∃ x, x = es.eraseIdx i := ⟨_, rfl⟩
        rw [← he5] at hv5 ho5 HC
        obtain ⟨n5, hn5⟩ : ∃ x, x = es5.length := ⟨_, rfl⟩
        rw [← hn5] at hv5
        subst hv5
        obtain ⟨b5, hb5⟩ : ∃ x, x = b + goodA (ge es i) g := ⟨_, rfl⟩
        obtain ⟨z5, hz5⟩ : ∃ x, x = z + ((ge es i).W * (ge es i).L - goodA (ge es i) g) := ⟨_, rfl⟩
        rw [← hb5, ← hz5] at HC hm5
        have hb59 : 0 ≤ b5 ∧ b5 ≤ 1000000 := by omega
        have hz59 : 0 ≤ z5 ∧ z5 ≤ 1000000 := by omega
        replace c20 := keepC b9 (by first | (simp; done) | (simp; omega)) c20; replace c21 := keepC b9 (by first | (simp; done) | (simp; omega)) c21; replace c22 := keepC b9 (by first | (simp; done) | (simp; omega)) c22; replace c23 := keepC b9 (by first | (simp; done) | (simp; omega)) c23
        replace f20 := keepF b9 (by first | (simp; done) | (simp; omega)) f20; replace f21 := keepF b9 (by first | (simp; done) | (simp; omega)) f21; replace f22 := keepF b9 (by first | (simp; done) | (simp; omega)) f22; replace f23 := keepF b9 (by first | (simp; done) | (simp; omega)) f23
        have Hb5 := Lib.hid (Hb4.out.trans (b9.mono (by omega)))
        have hzk := b9.size
        have Ho5 := Lib.hid ho5
        have Hm5 := Lib.hid hm5
        have hT5 := hm5.lt
        clear b9 he5 hn5 hb5 hz5 ho5 hm5 hgl har c00 c01 c02 c03 c10 c11 c12 c13 c14 c15 c16 x0 x1 x2 x3 fx0 fx1 fx2 fx3 HM4 Ho4 Hb4
        obtain ⟨⟨y0, y1, y2, y3⟩, _⟩ := Hm5.out.cells
        have hs5 : w1.heap.size ≤ wk.heap.size := by omega
        go_wp2_with fail
        refine (ValidMill_any w1.heap.size wk.heap.size _ es5 a b5 z5 wk (Ho5.out.es) (Nat.le_refl _) ⟨⟨by omega, by omega⟩, ⟨by omega, by omega⟩, ⟨by omega, by omega⟩⟩).mono ?_
        rintro e wv ⟨rfl, bv⟩
        replace c20 := keepB bv c20; replace c21 := keepB bv c21; replace c22 := keepB bv c22; replace c23 := keepB bv c23; replace y0 := keepB bv y0; replace y1 := keepB bv y1; replace y2 := keepB bv y2; replace y3 := keepB bv y3
        replace f20 := keepF bv (by first | (simp; done) | (simp; omega)) f20; replace f21 := keepF bv (by first | (simp; done) | (simp; omega)) f21; replace f22 := keepF bv (by first | (simp; done) | (simp; omega)) f22; replace f23 := keepF bv (by first | (simp; done) | (simp; omega)) f23
        have Hbv := Lib.hid (Hb5.out.trans (bv.mono (by have := Hb5.out.size; omega)))
        have Hov := Lib.hid ((Ho5.out.below bv (Nat.le_refl _)).wide (Nat.le_refl _) bv.size)
        have hszv : w1.heap.size ≤ wv.heap.size := by have := bv.size; omega
        clear bv Hb5 Ho5 Hm5
        cases hv : vMill es5 a b5 z5
        · have HR := Lib.hid (HM.out.trans (HC.out.trans (chk_none (m := ⟨es5, a, b5, z5⟩) hv)))
          clear HC hv
          go_wp2
          refine bodyPost_ret (v := .tuple #[.agg #[.slice none 0 0, .int .i64 0, .int .i64 0, .int .i64 0], .bool false]) (by simp [results, Tryz.results13, go_sem, *]) rfl ?_
          rw [HR.out]
          exact OpPost.none (((((Hbv.out.setCell (p := ⟨_, _, _⟩) (by simp; omega) _).setCell (p := ⟨_, _, _⟩) (by simp; omega) _).setCell (p := ⟨_, _, _⟩) (by simp; omega) _).setCell (p := ⟨_, _, _⟩) (by simp; omega) _))
        · have HR := Lib.hid (HM.out.trans (HC.out.trans (chk_yes (m := ⟨es5, a, b5, z5⟩) hv)))
          clear HC hv
          obtain ⟨w9, hw9⟩ : ∃ w9, w9 = (((wv.setCell ⟨w.heap.size + 1 + 1, 0, none⟩ (.slice A5 n5 c5)).setCell ⟨w.heap.size + 1 + 1, 1, none⟩ (.int .i64 a)).setCell ⟨w.heap.size + 1 + 1, 2, none⟩ (.int .i64 b5)).setCell ⟨w.heap.size + 1 + 1, 3, none⟩ (.int .i64 z5) := ⟨_, rfl⟩
          have HE9 := Lib.hid (show OwnE w9 w1.heap.size wv.heap.size 58 92 38 (.slice A5 n5 c5) es5 by
            rw [hw9]
            exact Hov.out.kept fun q hq _ => by have := HZ.out; simp only [World.setCell, Array.getElem?_modify, if_neg (show ¬ w.heap.size + 1 + 1 = q by omega)])
          have HB9 := Lib.hid (show Below w.heap.size w w9 by rw [hw9]; exact (((Hbv.out.setCell (p := ⟨_, _, _⟩) (by simp; omega) _).setCell (p := ⟨_, _, _⟩) (by simp; omega) _).setCell (p := ⟨_, _, _⟩) (by simp; omega) _).setCell (p := ⟨_, _, _⟩) (by simp; omega) _)
          have HZ9 := Lib.hid (show w9.heap.size = wv.heap.size by rw [hw9]; simp [World.setCell])
          have Hw9 := Lib.hid hw9
          clear hw9
          go_wp2
          refine bodyPost_ret (v := .tuple #[.agg #[(.slice A5 n5 c5), .int .i64 a, .int .i64 b5, .int .i64 z5], .bool true]) (by simp [results, Tryz.results13, go_sem, *]) rfl ?_
          rw [← Hw9.out, HR.out]
          exact OpPost.some HB9.out (HE9.out.wide (by have := HZ.out; omega) (by have := HZ9.out; omega))
      · have hb3 : (k == 3) = false := beq_f hk3
        have HR := Lib.hid (show apV ⟨es, a, b, z⟩ ⟨k, lb, l, r, f, t, g⟩ = none from HM.out.trans (by
          unfold apE
          rw [if_neg hk0, if_neg hge, if_neg hk1, if_neg hk2, if_neg hk3]))
        clear hge hk0 hk1 hk2 hk3
        go_wp2
        refine bodyPost_ret (v := .tuple #[.agg #[.slice none 0 0, .int .i64 0, .int .i64 0, .int .i64 0], .bool false]) (by simp [results, Tryz.results13, go_sem, *]) rfl ?_
        rw [HR.out]
        exact OpPost.none (((((Hb4.out.setCell (p := ⟨_, _, _⟩) (by simp; omega) _).setCell (p := ⟨_, _, _⟩) (by simp; omega) _).setCell (p := ⟨_, _, _⟩) (by simp; omega) _).setCell (p := ⟨_, _, _⟩) (by simp; omega) _))
end Go.Proofs.YtkgepklapglmdaaGreatDoor
