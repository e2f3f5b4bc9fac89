/-
  Lemmas and contracts of single functions of this program, used by the proofs of its laws: what each call returns and what becomes of memory. Conditions: the hypotheses of each theorem.
-/
import Derived.Test.YtodbgkflakfjpaaDrawV
namespace Go.Proofs.Ytodbgkflakfjpaa
open Go.RowKit
attribute [local go_sem ↓] Go.wp_at_zero Go.wp_at_succ

set_option maxRecDepth 100000 in
set_option maxHeartbeats 4000000 in
theorem cutReel_any (B k g : Nat) (v : Value) (w : World) (h : Rdr w B k g v) (hk : k ≤ 600000) :
    Calls Try.prog 97 #[v] w fun e w' => ∃ (W L : Int) (u z : Value) (ds ps : List (List Int)) (k' : Nat), e = .returned (.tuple #[.agg #[.int .i64 W, .int .i64 L, u], z]) ∧ (0 ≤ W ∧ W ≤ 61 ∧ 0 ≤ L ∧ L ≤ 401) ∧ OwnT w' w.heap.size 68 5 u ds ∧ OwnT w' w.heap.size 58 4 z ps ∧ ps.length ≤ 9 ∧ Rdr w' B k' g v ∧ k' ≤ k + 200 ∧ w.grownBy w' (some g) := by
  have hg0 := h.lt
  have Hs := Lib.hid (show ∃ w1, w1 = (w.alloc (.cells #[.int .i64 0, .int .i64 0, .slice none 0 0] 30)) ∧ Below w.heap.size w w1 ∧ w1.cell? ⟨w.heap.size, 0, none⟩ = some (.int .i64 0) ∧ w1.cell? ⟨w.heap.size, 1, none⟩ = some (.int .i64 0) ∧ w1.cell? ⟨w.heap.size, 2, none⟩ = some (.slice none 0 0) ∧ w1.frozen? ⟨w.heap.size, 0, none⟩ = false ∧ w1.frozen? ⟨w.heap.size, 1, none⟩ = false ∧ w1.frozen? ⟨w.heap.size, 2, none⟩ = false ∧ w.heap.size < w1.heap.size from by
    have hb : Below w.heap.size w (w.alloc (.cells #[.int .i64 0, .int .i64 0, .slice none 0 0] 30)) := (Below.refl _ _).alloc (Nat.le_refl _) _
    exact ⟨_, rfl, hb, by go_simp, by go_simp, by go_simp, by go_simp, by go_simp, by go_simp, by simp⟩)
  have hr1 : ∀ w1, Below w.heap.size w w1 → Rdr w1 B k g v := fun w1 hb => h.below hb
  go_enter Try.func97, Try.ntmps97
  go_wp2_with fail
  obtain ⟨w1, hw1, hb0, c00, c01, c02, f00, f01, f02, hz⟩ := Hs.out
  rw [← hw1]
  clear hw1 Hs
  have hr := hr1 w1 hb0
  clear hr1 h
  have hgr := grown_below hb0 (some g)
  refine (anyReel_any B k g v w1 hr (by omega)).mono ?_
  rintro e w2 ⟨W, L, u, ds, k1, rfl, hb, ho, hdl, hr2, hk1, bg1⟩
  replace c00 := keepW bg1 (by first | (simp; done) | (simp; omega)) c00; replace c01 := keepW bg1 (by first | (simp; done) | (simp; omega)) c01; replace c02 := keepW bg1 (by first | (simp; done) | (simp; omega)) c02
  replace f00 := keepWF bg1 (by first | (simp; done) | (simp; omega)) f00; replace f01 := keepWF bg1 (by first | (simp; done) | (simp; omega)) f01; replace f02 := keepWF bg1 (by first | (simp; done) | (simp; omega)) f02
  have hgr2 := grown_trans hgr bg1
  have hz2b := bg1.size
  have hz2 : w.heap.size < w2.heap.size := by omega
  obtain ⟨A, c, rfl, hc, hm⟩ := ho.form
  clear hr bg1 hgr hb0
  go_wp2_with fail
  obtain ⟨w3, hw1⟩ : ∃ w3, w3 = w2.alloc (.cells #[.int .i64 W, .int .i64 L, .slice A ds.length c] 30) := ⟨_, rfl⟩
  have x0 : w3.cell? ⟨w2.heap.size, 0, none⟩ = some (.int .i64 W) := by rw [hw1]; go_simp
  have x1 : w3.cell? ⟨w2.heap.size, 1, none⟩ = some (.int .i64 L) := by rw [hw1]; go_simp
  have x2 : w3.cell? ⟨w2.heap.size, 2, none⟩ = some (.slice A ds.length c) := by rw [hw1]; go_simp
  have bx : Below w2.heap.size w2 w3 := by rw [hw1]; exact (Below.refl _ _).alloc (Nat.le_refl _) _
  have zx : w2.heap.size < w3.heap.size := by rw [hw1]; simp
  have HZx := Lib.hid (show w3.heap.size = w2.heap.size + 1 by rw [hw1]; simp)
  have fx0 : w3.frozen? ⟨w2.heap.size, 0, none⟩ = false := by rw [hw1]; go_simp
  have fx1 : w3.frozen? ⟨w2.heap.size, 1, none⟩ = false := by rw [hw1]; go_simp
  have fx2 : w3.frozen? ⟨w2.heap.size, 2, none⟩ = false := by rw [hw1]; go_simp
  have Hx := Lib.hid (show w3.heap[w2.heap.size]? = some (.cells #[.int .i64 W, .int .i64 L, .slice A ds.length c] 30) by rw [hw1]; exact heap_alloc_new w2 _)
  rw [← hw1]
  clear hw1
  replace c00 := keepB bx c00; replace c01 := keepB bx c01; replace c02 := keepB bx c02
  replace f00 := keepF bx (by first | (simp; done) | (simp; omega)) f00; replace f01 := keepF bx (by first | (simp; done) | (simp; omega)) f01; replace f02 := keepF bx (by first | (simp; done) | (simp; omega)) f02
  have hz3 : w2.heap.size + 1 ≤ w3.heap.size := by have := HZx.out; omega
  have ho3 := ho.kept (.of_below bx (Nat.le_refl _))
  have hlo := ho.lt
  have hr3 := hr2.below bx
  have hgr3 := grown_trans hgr2 (grown_below bx (some g))
  clear bx hr2 hgr2 ho zx HZx Hx fx0 fx1 fx2
  refine (someCuts_any B k1 g _ _ v _ W L ds w3 hr3 (by omega) ho3.ts (Nat.le_refl _)).mono ?_
  rintro e w4 ⟨z, ps, k2, rfl, hp, hpl, hr4, hk2, bg1⟩
  replace c00 := keepW bg1 (by first | (simp; done) | (simp; omega)) c00; replace c01 := keepW bg1 (by first | (simp; done) | (simp; omega)) c01; replace c02 := keepW bg1 (by first | (simp; done) | (simp; omega)) c02; replace x0 := keepW bg1 (by first | (simp; done) | (simp; omega)) x0; replace x1 := keepW bg1 (by first | (simp; done) | (simp; omega)) x1; replace x2 := keepW bg1 (by first | (simp; done) | (simp; omega)) x2
  replace f00 := keepWF bg1 (by first | (simp; done) | (simp; omega)) f00; replace f01 := keepWF bg1 (by first | (simp; done) | (simp; omega)) f01; replace f02 := keepWF bg1 (by first | (simp; done) | (simp; omega)) f02
  have ho4 := ho3.grown bg1 (by omega)
  have hgr4 := grown_trans hgr3 bg1
  have hz4 := bg1.size
  obtain ⟨A2, c2, rfl, hc2, hm2⟩ := hp.form
  clear bg1 hr3 hgr3 ho3
  have Hp := Lib.hid hp
  have Ho := Lib.hid ho4
  by_cases h0 : 0 < ps.length
  · have h0i : (0 : Int) < (ps.length : Int) := by omega
    clear hp ho4
    go_wp2_with fail
    refine (pick_any B k2 g v 16 w4 hr4 (by omega) (by omega)).mono ?_
    rintro e w5 ⟨y, rfl, hy, hr5, bo1⟩
    replace c00 := keepO bo1 (by first | (simp; done) | (simp; omega)) c00; replace c01 := keepO bo1 (by first | (simp; done) | (simp; omega)) c01; replace c02 := keepO bo1 (by first | (simp; done) | (simp; omega)) c02; replace x0 := keepO bo1 (by first | (simp; done) | (simp; omega)) x0; replace x1 := keepO bo1 (by first | (simp; done) | (simp; omega)) x1; replace x2 := keepO bo1 (by first | (simp; done) | (simp; omega)) x2
    replace f00 := keepOF bo1 (by first | (simp; done) | (simp; omega)) f00; replace f01 := keepOF bo1 (by first | (simp; done) | (simp; omega)) f01; replace f02 := keepOF bo1 (by first | (simp; done) | (simp; omega)) f02
    have hp5 := Hp.out.kept (bo1.kept (.inr (by omega)))
    have ho5 := Ho.out.kept (bo1.kept (.inr (by omega)))
    have hgr5 := grown_trans hgr4 (grown_only bo1)
    have hz5 : w4.heap.size ≤ w5.heap.size := by have := bo1.size; omega
    obtain ⟨e0, he0⟩ : ∃ e, (y == 0) = e := ⟨_, rfl⟩
    clear hy bo1 hr4 hgr4 Hp Ho
    cases e0
    · have Hp := Lib.hid hp5
      have Ho := Lib.hid ho5
      clear hp5 ho5
      go_wp2
      refine bodyPost_ret (v := .tuple #[.agg #[.int .i64 W, .int .i64 L, .slice A ds.length c], .slice A2 ps.length c2]) (by simp [results, Try.results97, go_sem, *]) rfl ⟨W, L, _, _, ds, ps, k2 + 1, rfl, by omega, ?_, ?_, by first | omega | (rw [List.length_append]; simp; omega), ?_, by omega, ?_⟩
      · exact (((Ho.out.setBelow (by show w.heap.size < _; omega) _).setBelow (by show w.heap.size < _; omega) _).setBelow (by show w.heap.size < _; omega) _).base (by omega)
      · exact (((Hp.out.setBelow (by show w.heap.size < _; omega) _).setBelow (by show w.heap.size < _; omega) _).setBelow (by show w.heap.size < _; omega) _).base (by omega)
      · exact ((hr5.set ⟨by show B ≤ w.heap.size; omega, by show ¬ w.heap.size = g; omega⟩ _).set ⟨by show B ≤ w.heap.size; omega, by show ¬ w.heap.size = g; omega⟩ _).set ⟨by show B ≤ w.heap.size; omega, by show ¬ w.heap.size = g; omega⟩ _
      · exact grown_setCell (grown_setCell (grown_setCell hgr5 (Nat.le_refl _) _) (Nat.le_refl _) _) (Nat.le_refl _) _
    · obtain ⟨b, o, hA2, hb2, hb3, e0, e1, e2, e3⟩ := hp5.ts.c4 h0
      have hall : ∀ x ∈ ps, ∀ y ∈ x, I64 y := fun x hx => (hp5.ts.all x hx).2
      have i0 := gi_i64 (hall _ (gr_mem h0)) 0
      have i1 := gi_i64 (hall _ (gr_mem h0)) 1
      have i2 := gi_i64 (hall _ (gr_mem h0)) 2
      have i3 := gi_i64 (hall _ (gr_mem h0)) 3
      subst hA2
      simp only [Nat.zero_mul, Nat.add_zero] at e0 e1 e2 e3
      have Hp := Lib.hid hp5
      have Ho := Lib.hid ho5
      have hl1 := hp5.lt
      clear hp5 ho5 hall
      go_wp2_with (at_builtin; refine wpList_appendT SlPart _ rfl (.tmp 19) (.tmp 23) rfl [gi (gr ps 0) 0, gi (gr ps 0) 1, gi (gr ps 0) 2, gi (gr ps 0) 3] _ rfl w3.heap.size _ ps rfl rfl Hp.out ⟨rfl, i64_4 i0 i1 i2 i3⟩ (by omega) (by omega) (by omega) ?_; intro v' w6 ho3 hg3; obtain ⟨A9, c9, rfl, hc9, hm9⟩ := ho3.form; have bA := hg3.below; replace c00 := keepC bA (by first | (simp; done) | (simp; omega)) c00; replace c01 := keepC bA (by first | (simp; done) | (simp; omega)) c01; replace c02 := keepC bA (by first | (simp; done) | (simp; omega)) c02; replace x0 := keepC bA (by first | (simp; done) | (simp; omega)) x0; replace x1 := keepC bA (by first | (simp; done) | (simp; omega)) x1; replace x2 := keepC bA (by first | (simp; done) | (simp; omega)) x2; replace f00 := keepF bA (by first | (simp; done) | (simp; omega)) f00; replace f01 := keepF bA (by first | (simp; done) | (simp; omega)) f01; replace f02 := keepF bA (by first | (simp; done) | (simp; omega)) f02)
      have ho6 := Ho.out.grew hg3 (fun g h1 h2 => by have := (hlo g h1).2; have := (hl1 g h2).1; omega)
      have hr6 := hr5.grew hg3 (by omega)
      have hgr6 := grown_then hgr5 hg3.below (by omega)
      refine bodyPost_ret (v := .tuple #[.agg #[.int .i64 W, .int .i64 L, .slice A ds.length c], .slice A9 (ps ++ [[gi (gr ps 0) 0, gi (gr ps 0) 1, gi (gr ps 0) 2, gi (gr ps 0) 3]]).length c9]) (by simp [results, Try.results97, go_sem, *]) rfl ⟨W, L, _, _, ds, (ps ++ [[gi (gr ps 0) 0, gi (gr ps 0) 1, gi (gr ps 0) 2, gi (gr ps 0) 3]]), k2 + 1, rfl, by omega, ?_, ?_, by first | omega | (rw [List.length_append]; simp; omega), ?_, by omega, ?_⟩
      · exact (((ho6.setBelow (by show w.heap.size < _; omega) _).setBelow (by show w.heap.size < _; omega) _).setBelow (by show w.heap.size < _; omega) _).base (by omega)
      · exact (((ho3.setBelow (by show w.heap.size < _; omega) _).setBelow (by show w.heap.size < _; omega) _).setBelow (by show w.heap.size < _; omega) _).base (by omega)
      · exact ((hr6.set ⟨by show B ≤ w.heap.size; omega, by show ¬ w.heap.size = g; omega⟩ _).set ⟨by show B ≤ w.heap.size; omega, by show ¬ w.heap.size = g; omega⟩ _).set ⟨by show B ≤ w.heap.size; omega, by show ¬ w.heap.size = g; omega⟩ _
      · exact grown_setCell (grown_setCell (grown_setCell hgr6 (Nat.le_refl _) _) (Nat.le_refl _) _) (Nat.le_refl _) _
  · clear hp ho4
    have h0i : ¬ (0 : Int) < (ps.length : Int) := by omega
    go_wp2
    refine bodyPost_ret (v := .tuple #[.agg #[.int .i64 W, .int .i64 L, .slice A ds.length c], .slice A2 ps.length c2]) (by simp [results, Try.results97, go_sem, *]) rfl ⟨W, L, _, _, ds, ps, k2, rfl, by omega, ?_, ?_, by first | omega | (rw [List.length_append]; simp; omega), ?_, by omega, ?_⟩
    · exact (((Ho.out.setBelow (by show w.heap.size < _; omega) _).setBelow (by show w.heap.size < _; omega) _).setBelow (by show w.heap.size < _; omega) _).base (by omega)
    · exact (((Hp.out.setBelow (by show w.heap.size < _; omega) _).setBelow (by show w.heap.size < _; omega) _).setBelow (by show w.heap.size < _; omega) _).base (by omega)
    · exact ((hr4.set ⟨by show B ≤ w.heap.size; omega, by show ¬ w.heap.size = g; omega⟩ _).set ⟨by show B ≤ w.heap.size; omega, by show ¬ w.heap.size = g; omega⟩ _).set ⟨by show B ≤ w.heap.size; omega, by show ¬ w.heap.size = g; omega⟩ _
    · exact grown_setCell (grown_setCell (grown_setCell hgr4 (Nat.le_refl _) _) (Nat.le_refl _) _) (Nat.le_refl _) _
set_option maxRecDepth 100000 in
set_option maxHeartbeats 2000000 in
theorem DrawBadRolls_any (v : Value) (xs : List Int) (w : World) (h : Bytes w 0 w.heap.size v xs) :
    Calls Try.prog 48 #[v] w fun e w' => ∃ (W L : Int) (u z : Value) (ds ps : List (List Int)) (most : Int), e = .returned (.tuple #[.agg #[.int .i64 W, .int .i64 L, u], z, .int .i64 most]) ∧ OwnT w' w.heap.size 68 5 u ds ∧ OwnT w' w.heap.size 58 4 z ps ∧ (-1 ≤ most ∧ most ≤ 9) ∧ Below w.heap.size w w' := by
  have Hs := Lib.hid (show ∃ w1, w1 = (w.alloc (.cells #[.int .i64 0, .int .i64 0, .slice none 0 0] 30)) ∧ Below w.heap.size w w1 ∧ w1.cell? ⟨w.heap.size, 0, none⟩ = some (.int .i64 0) ∧ w1.cell? ⟨w.heap.size, 1, none⟩ = some (.int .i64 0) ∧ w1.cell? ⟨w.heap.size, 2, none⟩ = some (.slice none 0 0) ∧ w1.frozen? ⟨w.heap.size, 0, none⟩ = false ∧ w1.frozen? ⟨w.heap.size, 1, none⟩ = false ∧ w1.frozen? ⟨w.heap.size, 2, none⟩ = false ∧ w.heap.size < w1.heap.size from by
    have hb : Below w.heap.size w (w.alloc (.cells #[.int .i64 0, .int .i64 0, .slice none 0 0] 30)) := (Below.refl _ _).alloc (Nat.le_refl _) _
    exact ⟨_, rfl, hb, by go_simp, by go_simp, by go_simp, by go_simp, by go_simp, by go_simp, by simp⟩)
  have hb1 : ∀ w1, Below w.heap.size w w1 → Bytes w1 0 w.heap.size v xs := fun w1 hb => h.kept (.of_below hb (Nat.le_refl _))
  have hv : ∃ A n c, v = .slice A n c := by obtain ⟨A, c, e, _⟩ := h; exact ⟨A, _, c, e⟩
  obtain ⟨A0, n0, c0, rfl⟩ := hv
  go_enter Try.func48, Try.ntmps48
  go_wp2_with fail
  obtain ⟨w1, hw1, hb0, c00, c01, c02, f00, f01, f02, hz⟩ := Hs.out
  have HZ := Lib.hid (show w1.heap.size = w.heap.size + 1 by rw [hw1]; simp)
  rw [← hw1]
  clear hw1 Hs
  have hby := hb1 w1 hb0
  clear hb1 h
  refine (newReader_any _ xs w1 (Bytes.wide hby (Nat.le_refl _) (by omega))).mono ?_
  rintro e w2 ⟨rv, rfl, hr2, bx⟩
  replace c00 := keepB bx c00; replace c01 := keepB bx c01; replace c02 := keepB bx c02
  replace f00 := keepF bx (by first | (simp; done) | (simp; omega)) f00; replace f01 := keepF bx (by first | (simp; done) | (simp; omega)) f01; replace f02 := keepF bx (by first | (simp; done) | (simp; omega)) f02
  have hb2 := hb0.trans (bx.mono (by omega))
  have hz2 := hr2.lt
  clear hby bx hb0
  go_wp2_with fail
  refine (cutReel_any _ _ _ _ w2 hr2 (by omega)).mono ?_
  rintro e w3 ⟨W, L, u, z, ds, ps, k3, rfl, hb, ho, hp, hpl, hr3, hk3, bg1⟩
  obtain ⟨G, hG⟩ : ∃ G, G = w1.heap.size := ⟨_, rfl⟩
  rw [← hG] at hr3 bg1 hz2
  have hG1 : w.heap.size < G := by omega
  clear hr2 hz HZ hG
  replace c00 := keepW bg1 (by first | (simp; done) | (simp; omega)) c00; replace c01 := keepW bg1 (by first | (simp; done) | (simp; omega)) c01; replace c02 := keepW bg1 (by first | (simp; done) | (simp; omega)) c02
  replace f00 := keepWF bg1 (by first | (simp; done) | (simp; omega)) f00; replace f01 := keepWF bg1 (by first | (simp; done) | (simp; omega)) f01; replace f02 := keepWF bg1 (by first | (simp; done) | (simp; omega)) f02
  have hb3 := hb2.trans (below_of_grown bg1 (by omega) (by omega))
  have hz3 := bg1.size
  have hGz : G < w3.heap.size := by omega
  obtain ⟨A, c, rfl, hc, hm⟩ := ho.form
  obtain ⟨A2, c2, rfl, hc2, hm2⟩ := hp.form
  clear hb2 bg1
  go_wp2_with fail
  obtain ⟨w4, hw1⟩ : ∃ w4, w4 = w3.alloc (.cells #[.int .i64 W, .int .i64 L, .slice A ds.length c] 30) := ⟨_, rfl⟩
  have x0 : w4.cell? ⟨w3.heap.size, 0, none⟩ = some (.int .i64 W) := by rw [hw1]; go_simp
  have x1 : w4.cell? ⟨w3.heap.size, 1, none⟩ = some (.int .i64 L) := by rw [hw1]; go_simp
  have x2 : w4.cell? ⟨w3.heap.size, 2, none⟩ = some (.slice A ds.length c) := by rw [hw1]; go_simp
  have bx : Below w3.heap.size w3 w4 := by rw [hw1]; exact (Below.refl _ _).alloc (Nat.le_refl _) _
  have zx : w3.heap.size < w4.heap.size := by rw [hw1]; simp
  have HZx := Lib.hid (show w4.heap.size = w3.heap.size + 1 by rw [hw1]; simp)
  have fx0 : w4.frozen? ⟨w3.heap.size, 0, none⟩ = false := by rw [hw1]; go_simp
  have fx1 : w4.frozen? ⟨w3.heap.size, 1, none⟩ = false := by rw [hw1]; go_simp
  have fx2 : w4.frozen? ⟨w3.heap.size, 2, none⟩ = false := by rw [hw1]; go_simp
  have Hx := Lib.hid (show w4.heap[w3.heap.size]? = some (.cells #[.int .i64 W, .int .i64 L, .slice A ds.length c] 30) by rw [hw1]; exact heap_alloc_new w3 _)
  rw [← hw1]
  clear hw1
  replace c00 := keepB bx c00; replace c01 := keepB bx c01; replace c02 := keepB bx c02
  replace f00 := keepF bx (by first | (simp; done) | (simp; omega)) f00; replace f01 := keepF bx (by first | (simp; done) | (simp; omega)) f01; replace f02 := keepF bx (by first | (simp; done) | (simp; omega)) f02
  have hr4 := (hr3.below bx).drew
  have hz4 : w3.heap.size + 1 ≤ w4.heap.size := by have := HZx.out; omega
  have Ho := Lib.hid (ho.kept (.of_below bx (Nat.le_refl _)))
  have Hp := Lib.hid (hp.kept (.of_below bx (Nat.le_refl _)))
  have hb4 := hb3.trans (bx.mono (by omega))
  have hk1 : k3 ≤ 1000000 := by omega
  clear bx hr3 ho hp hb3 zx HZx fx0 fx1 fx2 Hx
  have hne1 : ¬ w3.heap.size = w.heap.size := by omega
  have hne2 : ¬ w.heap.size = w3.heap.size := by omega
  refine wp_region_held_drew (S := fun w' => w'.cell? ⟨w3.heap.size, 0, none⟩ = some (.int .i64 W) ∧ w'.cell? ⟨w3.heap.size, 1, none⟩ = some (.int .i64 L) ∧ w'.cell? ⟨w3.heap.size, 2, none⟩ = some (.slice A ds.length c)) (by kernel_rfl) ?_ (fun hHeld => ?_)
  · (first | (try dsimp only); go_keep | (go_split_ands; refine ⟨?_, ?_, ?_⟩ <;> first | exact keepB bx5 (by assumption) | exact keepB bx4 (by assumption) | exact keepB bx3 (by assumption) | exact keepB bx2 (by assumption) | exact keepB bx1 (by assumption) | exact keepO bo5 (by first | (simp; done) | (simp; omega)) (by assumption) | exact keepO bo4 (by first | (simp; done) | (simp; omega)) (by assumption) | exact keepO bo3 (by first | (simp; done) | (simp; omega)) (by assumption) | exact keepO bo2 (by first | (simp; done) | (simp; omega)) (by assumption) | exact keepO bo1 (by first | (simp; done) | (simp; omega)) (by assumption) | exact keepW bg2 (by first | (simp; done) | (simp; omega)) (by assumption) | exact keepW bg1 (by first | (simp; done) | (simp; omega)) (by assumption) | assumption))
  refine wpAnyH_take (i := 0) (oi := ⟨some 15, _, _, _, _, _⟩) (v := _) rfl (by kernel_rfl) (by kernel_rfl) (by kernel_rfl) (fun _ _ _ h => h) (Or.inl ⟨by kernel_rfl, by intro w hSw; (try dsimp only at hSw); go_simp; try with_reducible rfl⟩) (by assumption) ?_
  simp only [Act.put, List.setIfInBounds_toArray, List.set_cons_zero, List.set_cons_succ]
  refine wpAnyH_take (i := 1) (oi := ⟨some 16, _, _, _, _, _⟩) (v := _) rfl (by kernel_rfl) (by kernel_rfl) (by kernel_rfl) (fun _ _ _ h => h) (Or.inl ⟨by kernel_rfl, by intro w hSw; (try dsimp only at hSw); go_simp; try with_reducible rfl⟩) (by assumption) ?_
  simp only [Act.put, List.setIfInBounds_toArray, List.set_cons_zero, List.set_cons_succ]
  refine wpAnyH_take (i := 2) (oi := ⟨some 17, _, _, _, _, _⟩) (v := _) rfl (by kernel_rfl) (by kernel_rfl) (by kernel_rfl) (fun _ _ _ h => h) (Or.inl ⟨by kernel_rfl, by intro w hSw; (try dsimp only at hSw); go_simp; try with_reducible rfl⟩) (by assumption) ?_
  simp only [Act.put, List.setIfInBounds_toArray, List.set_cons_zero, List.set_cons_succ]
  refine wpAnyH_ready (rs := [3]) (by kernel_rfl) (by simp) ?_
  refine AllReadyH.cons (o := ⟨some 18, _, _, _, _, _⟩) rfl (fun K hK => ?_) AllReadyH.nil
  go_simp
  refine hK.out _ _ ?_ (fun hHeld2 => ?_)
  · (first | (try dsimp only); go_keep | (go_split_ands; refine ⟨?_, ?_, ?_⟩ <;> first | exact keepB bx5 (by assumption) | exact keepB bx4 (by assumption) | exact keepB bx3 (by assumption) | exact keepB bx2 (by assumption) | exact keepB bx1 (by assumption) | exact keepO bo5 (by first | (simp; done) | (simp; omega)) (by assumption) | exact keepO bo4 (by first | (simp; done) | (simp; omega)) (by assumption) | exact keepO bo3 (by first | (simp; done) | (simp; omega)) (by assumption) | exact keepO bo2 (by first | (simp; done) | (simp; omega)) (by assumption) | exact keepO bo1 (by first | (simp; done) | (simp; omega)) (by assumption) | exact keepW bg2 (by first | (simp; done) | (simp; omega)) (by assumption) | exact keepW bg1 (by first | (simp; done) | (simp; omega)) (by assumption) | assumption))
  clear hK K hHeld
  have hHeld := hHeld2
  clear hHeld2
  try simp only [Act.put, List.setIfInBounds_toArray, List.set_cons_zero, List.set_cons_succ]
  refine wpAnyH_ready (rs := [4]) (by kernel_rfl) (by simp) ?_
  refine AllReadyH.cons (o := ⟨some 19, _, _, _, _, _⟩) rfl (fun K hK => ?_) AllReadyH.nil
  go_simp
  go_at_call 92
  rw [show (w4.alloc (.cells #[.int .i64 0, .int .i64 3, .int .i64 5, .int .i64 9, .int .i64 (-1)] 3)).drew = w4.drew.alloc (.cells #[.int .i64 0, .int .i64 3, .int .i64 5, .int .i64 9, .int .i64 (-1)] 3) from rfl]
  refine (one_lit G k3 G rv [0, 3, 5, 9, -1] w4.drew _ 5 w4.heap.size hr4 hk1 rfl rfl rfl (by simp) (by simp) (by unfold I64; simp)).mono ?_
  rintro e wc ⟨y, rfl, hy, hrc, bg3⟩
  have hy1 : -1 ≤ y ∧ y ≤ 9 := by simp only [List.mem_cons, List.not_mem_nil, or_false] at hy; omega
  have bg2 := grown_drew bg3
  have hzc := bg2.size
  replace c00 := keepW bg2 (by first | (simp; done) | (simp; omega)) c00; replace c01 := keepW bg2 (by first | (simp; done) | (simp; omega)) c01; replace c02 := keepW bg2 (by first | (simp; done) | (simp; omega)) c02; replace x0 := keepW bg2 (by first | (simp; done) | (simp; omega)) x0; replace x1 := keepW bg2 (by first | (simp; done) | (simp; omega)) x1; replace x2 := keepW bg2 (by first | (simp; done) | (simp; omega)) x2
  replace f00 := keepWF bg2 (by first | (simp; done) | (simp; omega)) f00; replace f01 := keepWF bg2 (by first | (simp; done) | (simp; omega)) f01; replace f02 := keepWF bg2 (by first | (simp; done) | (simp; omega)) f02
  go_wp2_with fail
  refine hK.out _ _ ?_ (fun hHeld2 => ?_)
  · (first | (try dsimp only); go_keep | (go_split_ands; refine ⟨?_, ?_, ?_⟩ <;> first | exact keepB bx5 (by assumption) | exact keepB bx4 (by assumption) | exact keepB bx3 (by assumption) | exact keepB bx2 (by assumption) | exact keepB bx1 (by assumption) | exact keepO bo5 (by first | (simp; done) | (simp; omega)) (by assumption) | exact keepO bo4 (by first | (simp; done) | (simp; omega)) (by assumption) | exact keepO bo3 (by first | (simp; done) | (simp; omega)) (by assumption) | exact keepO bo2 (by first | (simp; done) | (simp; omega)) (by assumption) | exact keepO bo1 (by first | (simp; done) | (simp; omega)) (by assumption) | exact keepW bg2 (by first | (simp; done) | (simp; omega)) (by assumption) | exact keepW bg1 (by first | (simp; done) | (simp; omega)) (by assumption) | assumption))
  clear hK K hHeld
  have hHeld := hHeld2
  clear hHeld2
  try simp only [Act.put, List.setIfInBounds_toArray, List.set_cons_zero, List.set_cons_succ]
  refine wpAnyH_ready (rs := [5]) (by kernel_rfl) (by simp) ?_
  refine AllReadyH.cons (o := ⟨none, _, _, _, _, _⟩) rfl (fun K hK => ?_) AllReadyH.nil
  go_simp
  refine hK.out _ _ ?_ (fun hHeld2 => ?_)
  · (first | (try dsimp only); go_keep | (go_split_ands; refine ⟨?_, ?_, ?_⟩ <;> first | exact keepB bx5 (by assumption) | exact keepB bx4 (by assumption) | exact keepB bx3 (by assumption) | exact keepB bx2 (by assumption) | exact keepB bx1 (by assumption) | exact keepO bo5 (by first | (simp; done) | (simp; omega)) (by assumption) | exact keepO bo4 (by first | (simp; done) | (simp; omega)) (by assumption) | exact keepO bo3 (by first | (simp; done) | (simp; omega)) (by assumption) | exact keepO bo2 (by first | (simp; done) | (simp; omega)) (by assumption) | exact keepO bo1 (by first | (simp; done) | (simp; omega)) (by assumption) | exact keepW bg2 (by first | (simp; done) | (simp; omega)) (by assumption) | exact keepW bg1 (by first | (simp; done) | (simp; omega)) (by assumption) | assumption))
  clear hK K hHeld
  have hHeld := hHeld2
  clear hHeld2
  try simp only [Act.put, List.setIfInBounds_toArray, List.set_cons_zero, List.set_cons_succ]
  refine wpAnyH_take (i := 6) (oi := ⟨some 3, _, _, _, _, _⟩) (v := _) rfl (by kernel_rfl) (by kernel_rfl) (by kernel_rfl) (fun _ _ _ h => h) (Or.inl ⟨by kernel_rfl, by intro w hSw; (try dsimp only at hSw); go_simp; try with_reducible rfl⟩) (by assumption) ?_
  simp only [Act.put, List.setIfInBounds_toArray, List.set_cons_zero, List.set_cons_succ]
  refine wpAnyH_take (i := 7) (oi := ⟨some 4, _, _, _, _, _⟩) (v := _) rfl (by kernel_rfl) (by kernel_rfl) (by kernel_rfl) (fun _ _ _ h => h) (Or.inl ⟨by kernel_rfl, by intro w hSw; (try dsimp only at hSw); go_simp; try with_reducible rfl⟩) (by assumption) ?_
  simp only [Act.put, List.setIfInBounds_toArray, List.set_cons_zero, List.set_cons_succ]
  refine wpAnyH_done (by kernel_rfl) ?_ _
  clear hy hr4 bg3 hne1 hne2
  have hbc := hb4.trans (below_of_grown bg2 (B := w.heap.size) (by omega) (by omega))
  go_wp2
  refine bodyPost_ret (v := .tuple #[.agg #[.int .i64 W, .int .i64 L, .slice A ds.length c], .slice A2 ps.length c2, .int .i64 y]) (by simp [results, Try.results48, go_sem, *]) rfl ⟨W, L, _, _, ds, ps, y, rfl, ?_, ?_, hy1, ((hbc.setCell (Nat.le_refl _) _).setCell (Nat.le_refl _) _).setCell (Nat.le_refl _) _⟩
  · exact ((((Ho.out.kept (Kept.of_grown bg2 (Nat.le_refl _) (.inl (by omega)))).setBelow (by show w.heap.size < _; omega) _).setBelow (by show w.heap.size < _; omega) _).setBelow (by show w.heap.size < _; omega) _).base (by omega)
  · exact ((((Hp.out.kept (Kept.of_grown bg2 (Nat.le_refl _) (.inl (by omega)))).setBelow (by show w.heap.size < _; omega) _).setBelow (by show w.heap.size < _; omega) _).setBelow (by show w.heap.size < _; omega) _).base (by omega)
end Go.Proofs.Ytodbgkflakfjpaa
