/-
  Lemmas and contracts of single functions of this program, used by the proofs of its laws: what each call returns and what becomes of memory. Conditions: the hypotheses of each theorem.
-/
import Derived.Test.YtkgepklapglmdaaGreatDoorMillF
namespace Go.Proofs.YtkgepklapglmdaaGreatDoor
open Go.RowKit
attribute [local go_sem ↓] Go.wp_at_zero Go.wp_at_succ

theorem plcFrom_rng (n : Int) : ∀ (xs : List Int) (k : Nat), plcFrom xs n k = -1 ∨ ∃ i : Nat, plcFrom xs n k = ((k + i : Nat) : Int) ∧ i < xs.length
  | [], _ => .inl rfl
  | x :: t, k => by
    rw [plcFrom]
    by_cases hx : x = n
    · rw [if_pos hx]
      exact .inr ⟨0, rfl, by simp⟩
    · rw [if_neg hx]
      rcases plcFrom_rng n t (k + 1) with h | ⟨i, h, hi⟩
      · exact .inl h
      · exact .inr ⟨i + 1, by rw [h]; congr 1; omega, by simp; omega⟩
theorem entI_rng (es : List Ent) (lb : Int) : entI es lb < 0 ∨ ∃ i : Nat, entI es lb = (i : Int) ∧ i < es.length := by
  rcases plcFrom_rng lb (lbs es) 0 with h | ⟨i, h, hi⟩
  · left; show plcFrom (lbs es) lb 0 < 0; omega
  · right
    exact ⟨i, by show plcFrom (lbs es) lb 0 = _; rw [h, Nat.zero_add], by unfold lbs at hi; rwa [List.length_map] at hi⟩
theorem chk_none {m : Mil} (h : vMill m.es m.a m.b m.z = false) : chk m = none := by unfold chk Mil.ok; rw [h]; exact if_neg (by simp)
theorem chk_yes {m : Mil} (h : vMill m.es m.a m.b m.z = true) : chk m = some m := by unfold chk Mil.ok; rw [h]; exact if_pos rfl
/-- the numbers of an event are 64 bits wide -/
def V64 (e : Evt) : Prop := I64 e.k ∧ I64 e.lb ∧ I64 e.l ∧ I64 e.r ∧ I64 e.f ∧ I64 e.t ∧ I64 e.g
/-- what a call returns that makes something of a mill -/
def ApPost (w : World) (r : Option Mil) (e : Ending) (w' : World) : Prop :=
  ∃ v', e = .returned (.tuple #[.agg #[v', .int .i64 (r.getD Mil.nil).a, .int .i64 (r.getD Mil.nil).b, .int .i64 (r.getD Mil.nil).z], .bool r.isSome]) ∧ ES w' w.heap.size w'.heap.size v' (r.getD Mil.nil).es ∧ Below w.heap.size w w'
theorem ES.nil (w : World) (lo hi : Nat) : ES w lo hi (.slice none 0 0) [] := ⟨none, 0, [], rfl, by simp, by simp [maxLen], ⟨by simp, fun h => absurd h (by simp)⟩, fun k hk => absurd hk (by simp)⟩
theorem ApPost.none {w w' : World} (h : Below w.heap.size w w') : ApPost w none (.returned (.tuple #[.agg #[.slice none 0 0, .int .i64 0, .int .i64 0, .int .i64 0], .bool false])) w' := ⟨_, rfl, ES.nil _ _ _, h⟩
theorem ApPost.some {w w' : World} {v : Value} {es : List Ent} {a b z : Int} (h : Below w.heap.size w w') (he : ES w' w.heap.size w'.heap.size v es) : ApPost w (some ⟨es, a, b, z⟩) (.returned (.tuple #[.agg #[v, .int .i64 a, .int .i64 b, .int .i64 z], .bool true])) w' := ⟨_, rfl, he, h⟩
theorem i64_5M {a b c d e : Int} (ha : I64 a) (hb : I64 b) (hc : I64 c) (hd : I64 d) (he : I64 e) : ∀ n ∈ [a, b, c, d, e], I64 n := fun n hn => by
  simp only [List.mem_cons, List.not_mem_nil, or_false] at hn
  rcases hn with rfl | rfl | rfl | rfl | rfl <;> assumption
theorem i64_4M {a b c d : Int} (ha : I64 a) (hb : I64 b) (hc : I64 c) (hd : I64 d) : ∀ n ∈ [a, b, c, d], I64 n := fun n hn => by
  simp only [List.mem_cons, List.not_mem_nil, or_false] at hn
  rcases hn with rfl | rfl | rfl | rfl <;> assumption
theorem mill_sizes {es : List Ent} {a b z : Int} (h : vMill es a b z = true) : es.length ≤ 12 ∧ ∀ k, k < es.length → (ge es k).ds.length ≤ 1000 ∧ (ge es k).ps.length ≤ 1000 := by
  have hv := vMill_iff.1 h
  refine ⟨hv.2.1, fun k hk => ?_⟩
  have hc := vCuts_iff.1 (vEnt_iff.1 (hv.1 k hk).1).2.2
  have := vReel_iff.1 hc.1
  omega
set_option maxRecDepth 100000 in
set_option maxHeartbeats 8000000 in
theorem applyEvent_any (lo hi : Nat) (v : Value) (m : Mil) (ev : Evt) (w : World) (h : ES w lo hi v m.es) (hhi : hi ≤ w.heap.size) (hok : m.ok = true) (h64 : V64 ev) :
    Calls Tryz.prog 89 #[.agg #[v, .int .i64 m.a, .int .i64 m.b, .int .i64 m.z], .agg #[.int .i64 ev.k, .int .i64 ev.lb, .int .i64 ev.l, .int .i64 ev.r, .int .i64 ev.f, .int .i64 ev.t, .int .i64 ev.g]] w fun e w' => ApPost w (apE m ev) e w' := by
  obtain ⟨es, a, b, z⟩ := m
  obtain ⟨k, lb, l, r, f, t, g⟩ := ev
  replace hok : vMill es a b z = true := hok
  dsimp only at h ⊢
  obtain ⟨A, c, rfl, hc, hm⟩ := h.form
  have hes : ∀ w1, Below w.heap.size w w1 → ES w1 lo hi (.slice A es.length c) es := fun w1 hb => h.below hb hhi
  have hsz := mill_sizes hok
  have hvm := vMill_iff.1 hok
  have hl12 := hsz.1
  have HSz := Lib.hid hsz.2
  have HEn := Lib.hid hvm.1
  have ha9 := hvm.2.2.1
  have hb9 := hvm.2.2.2.1
  have hz9 := hvm.2.2.2.2.1
  have H64 := Lib.hid h64
  clear hsz hvm h64 hok
  have Hs := Lib.hid (show ∃ w1, w1 = (((w.alloc (.cells #[.slice A es.length c, .int .i64 a, .int .i64 b, .int .i64 z] 25)).alloc (.cells #[.int .i64 k, .int .i64 lb, .int .i64 l, .int .i64 r, .int .i64 f, .int .i64 t, .int .i64 g] 40)).alloc (.cells #[.slice none 0 0, .int .i64 0, .int .i64 0, .int .i64 0] 25)) ∧ Below w.heap.size w w1 ∧ w1.cell? ⟨w.heap.size, 0, none⟩ = some (.slice A es.length c) ∧ w1.cell? ⟨w.heap.size, 1, none⟩ = some (.int .i64 a) ∧ w1.cell? ⟨w.heap.size, 2, none⟩ = some (.int .i64 b) ∧ w1.cell? ⟨w.heap.size, 3, none⟩ = some (.int .i64 z) ∧ w1.cell? ⟨w.heap.size + 1, 0, none⟩ = some (.int .i64 k) ∧ w1.cell? ⟨w.heap.size + 1, 1, none⟩ = some (.int .i64 lb) ∧ w1.cell? ⟨w.heap.size + 1, 2, none⟩ = some (.int .i64 l) ∧ w1.cell? ⟨w.heap.size + 1, 3, none⟩ = some (.int .i64 r) ∧ w1.cell? ⟨w.heap.size + 1, 4, none⟩ = some (.int .i64 f) ∧ w1.cell? ⟨w.heap.size + 1, 5, none⟩ = some (.int .i64 t) ∧ w1.cell? ⟨w.heap.size + 1, 6, none⟩ = some (.int .i64 g) ∧ w1.cell? ⟨w.heap.size + 1 + 1, 0, none⟩ = some (.slice none 0 0) ∧ w1.cell? ⟨w.heap.size + 1 + 1, 1, none⟩ = some (.int .i64 0) ∧ w1.cell? ⟨w.heap.size + 1 + 1, 2, none⟩ = some (.int .i64 0) ∧ w1.cell? ⟨w.heap.size + 1 + 1, 3, none⟩ = some (.int .i64 0) ∧ w1.frozen? ⟨w.heap.size + 1 + 1, 0, none⟩ = false ∧ w1.frozen? ⟨w.heap.size + 1 + 1, 1, none⟩ = false ∧ w1.frozen? ⟨w.heap.size + 1 + 1, 2, none⟩ = false ∧ w1.frozen? ⟨w.heap.size + 1 + 1, 3, none⟩ = false ∧ w.heap.size + 1 + 1 < w1.heap.size from by
    have hb : Below w.heap.size w (((w.alloc (.cells #[.slice A es.length c, .int .i64 a, .int .i64 b, .int .i64 z] 25)).alloc (.cells #[.int .i64 k, .int .i64 lb, .int .i64 l, .int .i64 r, .int .i64 f, .int .i64 t, .int .i64 g] 40)).alloc (.cells #[.slice none 0 0, .int .i64 0, .int .i64 0, .int .i64 0] 25)) := (((Below.refl _ _).alloc (Nat.le_refl _) _).alloc (by simp) _).alloc (by simp; omega) _
    exact ⟨_, rfl, hb, by go_simp, by go_simp, by go_simp, by go_simp, by go_simp, by go_simp, by go_simp, by go_simp, by go_simp, by go_simp, by go_simp, by go_simp, by go_simp, by go_simp, by go_simp, by go_simp, by go_simp, by go_simp, by go_simp, by simp⟩)
  go_enter Tryz.func89, Tryz.ntmps89
  go_wp2_with fail
  obtain ⟨w1, hw1, hb0, c00, c01, c02, c03, c10, c11, c12, c13, c14, c15, c16, c20, c21, c22, c23, f20, f21, f22, f23, hz⟩ := Hs.out
  have HZ := Lib.hid (show w1.heap.size = w.heap.size + 1 + 1 + 1 by rw [hw1]; simp)
  rw [← hw1]
  clear hw1 Hs
  refine (copyMill_any lo hi _ es a b z w1 (hes w1 hb0) (by omega) (by omega) HSz.out).mono ?_
  rintro e w2 ⟨v2, rfl, ho2, b2⟩
  obtain ⟨A2, c2, hv2, hc2, hm2⟩ := ho2.form
  subst hv2
  replace c00 := keepB b2 c00; replace c01 := keepB b2 c01; replace c02 := keepB b2 c02; replace c03 := keepB b2 c03; replace c10 := keepB b2 c10; replace c11 := keepB b2 c11; replace c12 := keepB b2 c12; replace c13 := keepB b2 c13; replace c14 := keepB b2 c14; replace c15 := keepB b2 c15; replace c16 := keepB b2 c16; replace c20 := keepB b2 c20; replace c21 := keepB b2 c21; replace c22 := keepB b2 c22; replace c23 := keepB b2 c23
  replace f20 := keepF b2 (by first | (simp; done) | (simp; omega)) f20; replace f21 := keepF b2 (by first | (simp; done) | (simp; omega)) f21; replace f22 := keepF b2 (by first | (simp; done) | (simp; omega)) f22; replace f23 := keepF b2 (by first | (simp; done) | (simp; omega)) f23
  have hb2 := hb0.trans (b2.mono (by omega))
  have hz2 := b2.size
  clear b2 hb0 h hes
  have hy1 : w.heap.size + 1 < w2.heap.size := by omega
  go_wp2_with fail
  clear hy1
  obtain ⟨w3, hw1⟩ : ∃ w3, w3 = w2.alloc (.cells #[.slice A2 es.length c2, .int .i64 a, .int .i64 b, .int .i64 z] 25) := ⟨_, rfl⟩
  have x0 : w3.cell? ⟨w2.heap.size, 0, none⟩ = some (.slice A2 es.length c2) := by rw [hw1]; go_simp
  have x1 : w3.cell? ⟨w2.heap.size, 1, none⟩ = some (.int .i64 a) := by rw [hw1]; go_simp
  have x2 : w3.cell? ⟨w2.heap.size, 2, none⟩ = some (.int .i64 b) := by rw [hw1]; go_simp
  have x3 : w3.cell? ⟨w2.heap.size, 3, none⟩ = some (.int .i64 z) := by rw [hw1]; go_simp
  have bx : Below w2.heap.size w2 w3 := by rw [hw1]; exact (Below.refl _ _).alloc (Nat.le_refl _) _
  have zx : w2.heap.size < w3.heap.size := by rw [hw1]; simp
  have HZx := Lib.hid (show w3.heap.size = w2.heap.size + 1 by rw [hw1]; simp)
  have fx0 : w3.frozen? ⟨w2.heap.size, 0, none⟩ = false := by rw [hw1]; go_simp
  have fx1 : w3.frozen? ⟨w2.heap.size, 1, none⟩ = false := by rw [hw1]; go_simp
  have fx2 : w3.frozen? ⟨w2.heap.size, 2, none⟩ = false := by rw [hw1]; go_simp
  have fx3 : w3.frozen? ⟨w2.heap.size, 3, none⟩ = false := by rw [hw1]; go_simp
  have Hx := Lib.hid (show w3.heap[w2.heap.size]? = some (.cells #[.slice A2 es.length c2, .int .i64 a, .int .i64 b, .int .i64 z] 25) by rw [hw1]; exact heap_alloc_new w2 _)
  rw [← hw1]
  clear hw1
  have ho3 := ho2.below bx (Nat.le_refl _)
  have hb3 := hb2.trans (bx.mono (by omega))
  replace c00 := keepB bx c00; replace c01 := keepB bx c01; replace c02 := keepB bx c02; replace c03 := keepB bx c03; replace c10 := keepB bx c10; replace c11 := keepB bx c11; replace c12 := keepB bx c12; replace c13 := keepB bx c13; replace c14 := keepB bx c14; replace c15 := keepB bx c15; replace c16 := keepB bx c16; replace c20 := keepB bx c20; replace c21 := keepB bx c21; replace c22 := keepB bx c22; replace c23 := keepB bx c23
  replace f20 := keepF bx (by first | (simp; done) | (simp; omega)) f20; replace f21 := keepF bx (by first | (simp; done) | (simp; omega)) f21; replace f22 := keepF bx (by first | (simp; done) | (simp; omega)) f22; replace f23 := keepF bx (by first | (simp; done) | (simp; omega)) f23
  obtain ⟨T6, hT6⟩ : ∃ T6, T6 = w2.heap.size := ⟨_, rfl⟩
  rw [← hT6] at x0 x1 x2 x3 fx0 fx1 fx2 fx3 ho3 zx hz2 Hx
  rw [← hT6]
  have HMB : Hid (∃ cs, w3.heap[T6]? = some (.cells cs 25 (0, 0))) := ⟨_, Hx.out⟩
  clear bx hb2 ho2 hT6 Hx HZx
  refine (entryOf_any w1.heap.size T6 _ es a b z lb w3 ho3.es (by omega)).mono ?_
  rintro e w4 ⟨rfl, b4⟩
  have Ho4 := Lib.hid (ho3.below b4 (by omega))
  have Hb4 := Lib.hid (hb3.trans (b4.mono (by omega)))
  have hz4 := b4.size
  have HMB4 := Lib.hid (block_same HMB.out (b4.block _ zx))
  replace c00 := keepB b4 c00; replace c01 := keepB b4 c01; replace c02 := keepB b4 c02; replace c03 := keepB b4 c03; replace c10 := keepB b4 c10; replace c11 := keepB b4 c11; replace c12 := keepB b4 c12; replace c13 := keepB b4 c13; replace c14 := keepB b4 c14; replace c15 := keepB b4 c15; replace c16 := keepB b4 c16; replace c20 := keepB b4 c20; replace c21 := keepB b4 c21; replace c22 := keepB b4 c22; replace c23 := keepB b4 c23; replace x0 := keepB b4 x0; replace x1 := keepB b4 x1; replace x2 := keepB b4 x2; replace x3 := keepB b4 x3
  replace f20 := keepF b4 (by first | (simp; done) | (simp; omega)) f20; replace f21 := keepF b4 (by first | (simp; done) | (simp; omega)) f21; replace f22 := keepF b4 (by first | (simp; done) | (simp; omega)) f22; replace f23 := keepF b4 (by first | (simp; done) | (simp; omega)) f23; replace fx0 := keepF b4 (by first | (simp; done) | (simp; omega)) fx0; replace fx1 := keepF b4 (by first | (simp; done) | (simp; omega)) fx1; replace fx2 := keepF b4 (by first | (simp; done) | (simp; omega)) fx2; replace fx3 := keepF b4 (by first | (simp; done) | (simp; omega)) fx3
  clear b4 ho3 hb3 HMB
  have hT1 : w.heap.size + 1 + 1 < T6 := by omega
  have hTn : ¬ w.heap.size + 1 + 1 = T6 := by omega
  have hTn2 : ¬ T6 = w.heap.size + 1 + 1 := by omega
  have hTm : ¬ w.heap.size + 1 = T6 := by omega
  have hTm2 : ¬ T6 = w.heap.size + 1 := by omega
  have hT4 : T6 < w4.heap.size := by omega
  obtain ⟨at9, hat⟩ : ∃ x, x = entI es lb := ⟨_, rfl⟩
  have Hat := Lib.hid hat
  rw [← hat]
  clear hat
  by_cases hk0 : k = 0
  · subst hk0
    by_cases hin : (1 ≤ r ∧ r ≤ 60) ∧ (1 ≤ t ∧ t ≤ 400)
    · have r1 : inR 1 60 r = true := inR_mk hin.1
      have r2 : inR 1 400 t = true := inR_mk hin.2
      have HC := Lib.hid (show apE ⟨es, a, b, z⟩ ⟨0, lb, l, r, f, t, g⟩ = chk ⟨insE ⟨lb, r, t, [], []⟩ es, a + r * t, b, z⟩ by
        unfold apE
        rw [if_pos rfl, if_pos ⟨hin.1.1, hin.1.2, hin.2.1, hin.2.2⟩])
      go_wp2_with (first | (go_at_call 68; refine (inRange_any _ _ _ _).mono ?_; rintro e w' ⟨rfl, rfl⟩))
      refine (addReel_any w1.heap.size T6 _ es a b z lb r t w4 Ho4.out.es (by omega) (by omega) H64.out.2.1 ha9 hin.1 hin.2).mono ?_
      rintro e w5 ⟨v5, rfl, ho5, b5⟩
      obtain ⟨A5, c5, hv5, _⟩ := ho5.form
      obtain ⟨es5, he5⟩ : ∃ x, x = insE ⟨lb, r, t, [], []⟩ es := ⟨_, rfl⟩
      rw [← he5] at hv5 ho5 HC
      obtain ⟨n5, hn5⟩ : ∃ x, x = es5.length := ⟨_, rfl⟩
      rw [← hn5] at hv5
      subst hv5
      obtain ⟨a5, ha5⟩ : ∃ x, x = a + r * t := ⟨_, rfl⟩
      rw [← ha5] at HC ⊢
      replace c10 := keepB b5 c10; replace c20 := keepB b5 c20; replace c21 := keepB b5 c21; replace c22 := keepB b5 c22; replace c23 := keepB b5 c23; replace x0 := keepB b5 x0; replace x1 := keepB b5 x1; replace x2 := keepB b5 x2; replace x3 := keepB b5 x3
      replace f20 := keepF b5 (by first | (simp; done) | (simp; omega)) f20; replace f21 := keepF b5 (by first | (simp; done) | (simp; omega)) f21; replace f22 := keepF b5 (by first | (simp; done) | (simp; omega)) f22; replace f23 := keepF b5 (by first | (simp; done) | (simp; omega)) f23; replace fx0 := keepF b5 (by first | (simp; done) | (simp; omega)) fx0; replace fx1 := keepF b5 (by first | (simp; done) | (simp; omega)) fx1; replace fx2 := keepF b5 (by first | (simp; done) | (simp; omega)) fx2; replace fx3 := keepF b5 (by first | (simp; done) | (simp; omega)) fx3
      have Hb5 := Lib.hid (Hb4.out.trans (b5.mono (by omega)))
      have hz5 := b5.size
      have Hox := Lib.hid ho5
      clear b5 he5 hn5 ha5 r1 r2 hin c00 c01 c02 c03 c11 c12 c13 c14 c15 c16 ho5
      go_wp2_with fail
      obtain ⟨wz, hwz⟩ : ∃ wz, wz = (((w5.setCell ⟨T6, 0, none⟩ (.slice A5 n5 c5)).setCell ⟨T6, 1, none⟩ (.int .i64 a5)).setCell ⟨T6, 2, none⟩ (.int .i64 b)).setCell ⟨T6, 3, none⟩ (.int .i64 z) := ⟨_, rfl⟩
      have y0 : wz.cell? ⟨T6, 0, none⟩ = some (.slice A5 n5 c5) := by rw [hwz]; go_simp
      have y1 : wz.cell? ⟨T6, 1, none⟩ = some (.int .i64 a5) := by rw [hwz]; go_simp
      have y2 : wz.cell? ⟨T6, 2, none⟩ = some (.int .i64 b) := by rw [hwz]; go_simp
      have y3 : wz.cell? ⟨T6, 3, none⟩ = some (.int .i64 z) := by rw [hwz]; go_simp
      have ex : ∀ q, ¬ T6 = q → wz.heap[q]? = w5.heap[q]? := fun q hq => by rw [hwz]; simp only [World.setCell, Array.getElem?_modify, if_neg hq]
      have zx5 : wz.heap.size = w5.heap.size := by rw [hwz]; simp [World.setCell]
      replace c20 := cell_same (ex _ hTn2) c20
      replace c21 := cell_same (ex _ hTn2) c21
      replace c22 := cell_same (ex _ hTn2) c22
      replace c23 := cell_same (ex _ hTn2) c23
      replace f20 := frozen_same (ex _ hTn2) f20
      replace f21 := frozen_same (ex _ hTn2) f21
      replace f22 := frozen_same (ex _ hTn2) f22
      replace f23 := frozen_same (ex _ hTn2) f23
      have Hes5 := Lib.hid ((Hox.out.kept (w' := wz) (fun q hq _ => ex q (by omega)) (fun q _ hq => ex q (by omega))).es (by omega) (by omega))
      have Hbz := Lib.hid (show Below w.heap.size w wz by rw [hwz]; exact (((Hb5.out.setCell (p := ⟨_, _, _⟩) (by show w.heap.size ≤ T6; omega) _).setCell (p := ⟨_, _, _⟩) (by show w.heap.size ≤ T6; omega) _).setCell (p := ⟨_, _, _⟩) (by show w.heap.size ≤ T6; omega) _).setCell (p := ⟨_, _, _⟩) (by show w.heap.size ≤ T6; omega) _)
      have hwz9 : w.heap.size + 1 + 1 < wz.heap.size := by omega
      rw [← hwz]
      clear hwz ex zx5 x0 x1 x2 x3 fx0 fx1 fx2 fx3 Hb5
      refine (validMill_any w1.heap.size wz.heap.size _ es5 a5 b z wz Hes5.out (Nat.le_refl _) ⟨⟨by omega, by omega⟩, ⟨by omega, by omega⟩⟩).mono ?_
      rintro e wv ⟨rfl, bv⟩
      replace c20 := keepB bv c20; replace c21 := keepB bv c21; replace c22 := keepB bv c22; replace c23 := keepB bv c23; replace y0 := keepB bv y0; replace y1 := keepB bv y1; replace y2 := keepB bv y2; replace y3 := keepB bv y3
      replace f20 := keepF bv (by first | (simp; done) | (simp; omega)) f20; replace f21 := keepF bv (by first | (simp; done) | (simp; omega)) f21; replace f22 := keepF bv (by first | (simp; done) | (simp; omega)) f22; replace f23 := keepF bv (by first | (simp; done) | (simp; omega)) f23
      have Hbv := Lib.hid (Hbz.out.trans (bv.mono (by have := Hbz.out.size; omega)))
      have Hesv := Lib.hid (Hes5.out.below bv (Nat.le_refl _))
      have Hszv := Lib.hid bv.size
      clear bv Hbz Hes5
      cases hv : vMill es5 a5 b z
      · have HR := Lib.hid (HC.out.trans (chk_none (m := ⟨es5, a5, b, z⟩) hv))
        clear HC hv
        go_wp2
        refine bodyPost_ret (v := .tuple #[.agg #[.slice none 0 0, .int .i64 0, .int .i64 0, .int .i64 0], .bool false]) (by simp [results, Tryz.results89, go_sem, *]) rfl ?_
        rw [HR.out]
        exact ApPost.none (((((Hbv.out.setCell (p := ⟨_, _, _⟩) (by simp; omega) _).setCell (p := ⟨_, _, _⟩) (by simp; omega) _).setCell (p := ⟨_, _, _⟩) (by simp; omega) _).setCell (p := ⟨_, _, _⟩) (by simp; omega) _))
      · have HR := Lib.hid (HC.out.trans (chk_yes (m := ⟨es5, a5, b, z⟩) hv))
        clear HC hv
        obtain ⟨w9, hw9⟩ : ∃ w9, w9 = (((wv.setCell ⟨w.heap.size + 1 + 1, 0, none⟩ (.slice A5 n5 c5)).setCell ⟨w.heap.size + 1 + 1, 1, none⟩ (.int .i64 a5)).setCell ⟨w.heap.size + 1 + 1, 2, none⟩ (.int .i64 b)).setCell ⟨w.heap.size + 1 + 1, 3, none⟩ (.int .i64 z) := ⟨_, rfl⟩
        have HE9 := Lib.hid (show ES w9 w1.heap.size wz.heap.size (.slice A5 n5 c5) es5 by
          rw [hw9]
          exact Hesv.out.kept fun q hq _ => by have := HZ.out; simp only [World.setCell, Array.getElem?_modify, if_neg (show ¬ w.heap.size + 1 + 1 = q by omega)])
        have HB9 := Lib.hid (show Below w.heap.size w w9 by rw [hw9]; exact (((Hbv.out.setCell (p := ⟨_, _, _⟩) (by simp; omega) _).setCell (p := ⟨_, _, _⟩) (by simp; omega) _).setCell (p := ⟨_, _, _⟩) (by simp; omega) _).setCell (p := ⟨_, _, _⟩) (by simp; omega) _)
        have HZ9 := Lib.hid (show w9.heap.size = wv.heap.size by rw [hw9]; simp [World.setCell])
        have Hw9 := Lib.hid hw9
        clear hw9
        go_wp2
        refine bodyPost_ret (v := .tuple #[.agg #[(.slice A5 n5 c5), .int .i64 a5, .int .i64 b, .int .i64 z], .bool true]) (by simp [results, Tryz.results89, go_sem, *]) rfl ?_
        rw [← Hw9.out, HR.out]
        exact ApPost.some HB9.out (HE9.out.wide (by have := HZ.out; omega) (by have := Hszv.out; have := HZ9.out; omega))
    · have HR := Lib.hid (show apE ⟨es, a, b, z⟩ ⟨0, lb, l, r, f, t, g⟩ = none by
        unfold apE
        rw [if_pos rfl, if_neg fun h => hin ⟨⟨h.1, h.2.1⟩, h.2.2⟩])
      by_cases hr : 1 ≤ r ∧ r ≤ 60
      · have r1 : inR 1 60 r = true := inR_mk hr
        have r2 : inR 1 400 t = false := inR_no fun h => hin ⟨hr, h⟩
        clear hin hr
        go_wp2_with (first | (go_at_call 68; refine (inRange_any _ _ _ _).mono ?_; rintro e w' ⟨rfl, rfl⟩))
        refine bodyPost_ret (v := .tuple #[.agg #[.slice none 0 0, .int .i64 0, .int .i64 0, .int .i64 0], .bool false]) (by simp [results, Tryz.results89, go_sem, *]) rfl ?_
        rw [HR.out]
        exact ApPost.none (((((Hb4.out.setCell (p := ⟨_, _, _⟩) (by simp; omega) _).setCell (p := ⟨_, _, _⟩) (by simp; omega) _).setCell (p := ⟨_, _, _⟩) (by simp; omega) _).setCell (p := ⟨_, _, _⟩) (by simp; omega) _))
      · have r1 : inR 1 60 r = false := inR_no hr
        clear hin hr
        go_wp2_with (first | (go_at_call 68; refine (inRange_any _ _ _ _).mono ?_; rintro e w' ⟨rfl, rfl⟩))
        refine bodyPost_ret (v := .tuple #[.agg #[.slice none 0 0, .int .i64 0, .int .i64 0, .int .i64 0], .bool false]) (by simp [results, Tryz.results89, go_sem, *]) rfl ?_
        rw [HR.out]
        exact ApPost.none (((((Hb4.out.setCell (p := ⟨_, _, _⟩) (by simp; omega) _).setCell (p := ⟨_, _, _⟩) (by simp; omega) _).setCell (p := ⟨_, _, _⟩) (by simp; omega) _).setCell (p := ⟨_, _, _⟩) (by simp; omega) _))
  · have hkb : (k == 0) = false := beq_f hk0
    rcases entI_rng es lb with hneg | ⟨i, hi, hi9⟩
    · have HR := Lib.hid (show apE ⟨es, a, b, z⟩ ⟨k, lb, l, r, f, t, g⟩ = none by
        unfold apE
        rw [if_neg hk0, if_pos hneg])
      rw [← Hat.out] at hneg
      clear hk0
      go_wp2
      refine bodyPost_ret (v := .tuple #[.agg #[.slice none 0 0, .int .i64 0, .int .i64 0, .int .i64 0], .bool false]) (by simp [results, Tryz.results89, go_sem, *]) rfl ?_
      rw [HR.out]
      exact ApPost.none (((((Hb4.out.setCell (p := ⟨_, _, _⟩) (by simp; omega) _).setCell (p := ⟨_, _, _⟩) (by simp; omega) _).setCell (p := ⟨_, _, _⟩) (by simp; omega) _).setCell (p := ⟨_, _, _⟩) (by simp; omega) _))
    · obtain rfl : at9 = (i : Int) := Hat.out.trans hi
      have hin : ¬ (i : Int) < 0 := by omega
      have hge : ¬ entI es lb < 0 := by rw [hi]; exact hin
      have HtN := Lib.hid (show (entI es lb).toNat = i by rw [hi]; exact Int.toNat_natCast i)
      have hi0 : (0 : Int) ≤ (i : Int) := by omega
      have hi1 : (i : Int) < (es.length : Int) := by omega
      have HVE := Lib.hid (HEn.out i hi9).1
      have HI := Lib.hid hi
      clear hi
      by_cases hk1 : k = 1
      · subst hk1
        have HC := Lib.hid (show apE ⟨es, a, b, z⟩ ⟨1, lb, l, r, f, t, g⟩ = chk ⟨es.set i { ge es i with ds := (ge es i).ds ++ [[l, r, f, t, g]] }, a, b, z⟩ by
          unfold apE
          rw [if_neg hk0, if_neg hge, if_pos rfl]
          dsimp only
          rw [HtN.out])
        clear hge hk0
        go_wp2
        obtain ⟨wX, hwX⟩ : ∃ x, x = w4.alloc (.cells #[.int .i64 l, .int .i64 r, .int .i64 f, .int .i64 t, .int .i64 g] 92) := ⟨_, rfl⟩
        have bX : Below w4.heap.size w4 wX := by rw [hwX]; exact (Below.refl _ _).alloc (Nat.le_refl _) _
        have d0 : wX.cell? ⟨w4.heap.size, 0, none⟩ = some (.int .i64 l) := by rw [hwX]; go_simp
        have d1 : wX.cell? ⟨w4.heap.size, 1, none⟩ = some (.int .i64 r) := by rw [hwX]; go_simp
        have d2 : wX.cell? ⟨w4.heap.size, 2, none⟩ = some (.int .i64 f) := by rw [hwX]; go_simp
        have d3 : wX.cell? ⟨w4.heap.size, 3, none⟩ = some (.int .i64 t) := by rw [hwX]; go_simp
        have d4 : wX.cell? ⟨w4.heap.size, 4, none⟩ = some (.int .i64 g) := by rw [hwX]; go_simp
        have hXz : w4.heap.size < wX.heap.size := by rw [hwX]; simp
        have HoX := Lib.hid (Ho4.out.below bX (by omega))
        have HbX := Lib.hid (Hb4.out.trans (bX.mono (by have := Hb4.out.size; omega)))
        replace c20 := keepB bX c20; replace c21 := keepB bX c21; replace c22 := keepB bX c22; replace c23 := keepB bX c23; replace x0 := keepB bX x0; replace x1 := keepB bX x1; replace x2 := keepB bX x2; replace x3 := keepB bX x3
        replace f20 := keepF bX (by first | (simp; done) | (simp; omega)) f20; replace f21 := keepF bX (by first | (simp; done) | (simp; omega)) f21; replace f22 := keepF bX (by first | (simp; done) | (simp; omega)) f22; replace f23 := keepF bX (by first | (simp; done) | (simp; omega)) f23
        rw [← hwX]
        clear hwX bX Ho4 Hb4 c00 c01 c02 c03 c10 c11 c12 c13 c14 c15 c16 fx0 fx1 fx2 fx3
        obtain ⟨g0, Ad, cd, hA2, hg1, hg2, q0, fq0, hod, hob, hput⟩ := HoX.out.dsAt hi9 (by decide) (by decide) (by decide)
        subst hA2
        obtain ⟨es5, he5⟩ : ∃ x, x = es.set i { ge es i with ds := (ge es i).ds ++ [[l, r, f, t, g]] } := ⟨_, rfl⟩
        rw [← he5] at HC
        have Hpt := Lib.hid (fun w1 d ds s (hd : ds = (ge es i).ds ++ [[l, r, f, t, g]]) => hput w1 d ds s)
        have Hlen := Lib.hid (show (ge es i).ds.length ≤ 1000 from (HSz.out i hi9).1)
        obtain ⟨dl, hdl⟩ : ∃ x, x = (ge es i).ds := ⟨_, rfl⟩
        rw [← hdl] at q0 hod hob Hpt Hlen
        have Hdl := Lib.hid hdl
        obtain ⟨nd, hnd⟩ : ∃ x, x = dl.length := ⟨_, rfl⟩
        rw [← hnd] at q0 hod hob Hpt Hlen
        have hnl : nd ≤ 1000 := Hlen.out
        have Hnd := Lib.hid hnd
        have Hod := Lib.hid hod
        have Hob := Lib.hid hob
        have He5 := Lib.hid he5
        have hgT : ¬ T6 = g0 := by omega
        have hgT2 : ¬ g0 = T6 := by omega
        have hgw : ¬ w.heap.size + 1 + 1 = g0 := by omega
        have hgw2 : ¬ g0 = w.heap.size + 1 + 1 := by omega
        clear hput hdl hnd hod hob he5 hin
        refine wp_region_last (S := fun w' => w'.cell? ⟨w4.heap.size, 0, none⟩ = some (.int .i64 l) ∧ w'.cell? ⟨w4.heap.size, 1, none⟩ = some (.int .i64 r) ∧ w'.cell? ⟨w4.heap.size, 2, none⟩ = some (.int .i64 f) ∧ w'.cell? ⟨w4.heap.size, 3, none⟩ = some (.int .i64 t) ∧ w'.cell? ⟨w4.heap.size, 4, none⟩ = some (.int .i64 g) ∧ w'.cell? ⟨T6, 0, none⟩ = some (.slice (some ⟨g0, 0, none⟩) es.length c2) ∧ w'.cell? ⟨g0, i * 5 + 3, none⟩ = some (.slice Ad nd cd)) 16 (by kernel_rfl) ?_ (fun hHeld => ?_)
        · (first | (try dsimp only); go_keep | (go_split_ands; refine ⟨?_, ?_, ?_, ?_, ?_, ?_, ?_⟩ <;> first | assumption))
        refine AnyL.take (i := 0) (oi := ⟨some 66, _, _, _, _, _⟩) (v := _) rfl (by kernel_rfl) (by kernel_rfl) (by kernel_rfl) (by kernel_rfl) (fun _ _ _ h => h) (Or.inl ⟨by kernel_rfl, by intro w hSw; (try dsimp only at hSw); go_simp; try with_reducible rfl⟩) (by assumption) ?_
        simp only [Act.put, lyA, lyB, lyC]
        refine AnyL.take (i := 1) (oi := ⟨some 67, _, _, _, _, _⟩) (v := _) rfl (by kernel_rfl) (by kernel_rfl) (by kernel_rfl) (by kernel_rfl) (fun _ _ _ h => h) (Or.inl ⟨by kernel_rfl, by intro w hSw; (try dsimp only at hSw); go_simp; try with_reducible rfl⟩) (by assumption) ?_
        simp only [Act.put, lyA, lyB, lyC]
        refine AnyL.take (i := 2) (oi := ⟨some 68, _, _, _, _, _⟩) (v := _) rfl (by kernel_rfl) (by kernel_rfl) (by kernel_rfl) (by kernel_rfl) (fun _ _ _ h => h) (Or.inl ⟨by kernel_rfl, by intro w hSw; (try dsimp only at hSw); go_simp; try with_reducible rfl⟩) (by assumption) ?_
        simp only [Act.put, lyA, lyB, lyC]
        refine AnyL.take (i := 3) (oi := ⟨some 69, _, _, _, _, _⟩) (v := _) rfl (by kernel_rfl) (by kernel_rfl) (by kernel_rfl) (by kernel_rfl) (fun _ _ _ h => h) (Or.inl ⟨by kernel_rfl, by intro w hSw; (try dsimp only at hSw); go_simp; try with_reducible rfl⟩) (by assumption) ?_
        simp only [Act.put, lyA, lyB, lyC]
        refine AnyL.take (i := 4) (oi := ⟨some 70, _, _, _, _, _⟩) (v := _) rfl (by kernel_rfl) (by kernel_rfl) (by kernel_rfl) (by kernel_rfl) (fun _ _ _ h => h) (Or.inl ⟨by kernel_rfl, by intro w hSw; (try dsimp only at hSw); go_simp; try with_reducible rfl⟩) (by assumption) ?_
        simp only [Act.put, lyA, lyB, lyC]
        refine AnyL.take (i := 5) (oi := ⟨some 71, _, _, _, _, _⟩) (v := _) rfl (by kernel_rfl) (by kernel_rfl) (by kernel_rfl) (by kernel_rfl) (fun _ _ _ h => h) (Or.inl ⟨by kernel_rfl, by intro w hSw; (try dsimp only at hSw); go_simp; try with_reducible rfl⟩) (by assumption) ?_
        simp only [Act.put, lyA, lyB, lyC]
        refine AnyL.take (i := 6) (oi := ⟨some 72, _, _, _, _, _⟩) (v := _) rfl (by kernel_rfl) (by kernel_rfl) (by kernel_rfl) (by kernel_rfl) (fun _ _ _ h => h) (Or.inl ⟨by kernel_rfl, by intro w hSw; (try dsimp only at hSw); go_simp; try with_reducible rfl⟩) (by assumption) ?_
        simp only [Act.put, lyA, lyB, lyC]
        refine AnyL.take (i := 7) (oi := ⟨some 73, _, _, _, _, _⟩) (v := _) rfl (by kernel_rfl) (by kernel_rfl) (by kernel_rfl) (by kernel_rfl) (fun _ _ _ h => h) (Or.inl ⟨by kernel_rfl, by intro w hSw; (try dsimp only at hSw); go_simp; try with_reducible rfl⟩) (by assumption) ?_
        simp only [Act.put, lyA, lyB, lyC]
        refine AnyL.take (i := 8) (oi := ⟨some 74, _, _, _, _, _⟩) (v := _) rfl (by kernel_rfl) (by kernel_rfl) (by kernel_rfl) (by kernel_rfl) (fun _ _ _ h => h) (Or.inl ⟨by kernel_rfl, by intro w hSw; (try dsimp only at hSw); go_simp; try with_reducible rfl⟩) (by assumption) ?_
        simp only [Act.put, lyA, lyB, lyC]
        refine AnyL.take (i := 9) (oi := ⟨some 75, _, _, _, _, _⟩) (v := _) rfl (by kernel_rfl) (by kernel_rfl) (by kernel_rfl) (by kernel_rfl) (fun _ _ _ h => h) (Or.inl ⟨by kernel_rfl, by intro w hSw; (try dsimp only at hSw); go_simp; try with_reducible rfl⟩) (by assumption) ?_
        simp only [Act.put, lyA, lyB, lyC]
        refine AnyL.take (i := 10) (oi := ⟨some 76, _, _, _, _, _⟩) (v := _) rfl (by kernel_rfl) (by kernel_rfl) (by kernel_rfl) (by kernel_rfl) (fun _ _ _ h => h) (Or.inl ⟨by kernel_rfl, by intro w hSw; (try dsimp only at hSw); go_simp; try with_reducible rfl⟩) (by assumption) ?_
        simp only [Act.put, lyA, lyB, lyC]
        refine AnyL.one (i := 11) (o := ⟨some 77, _, _, _, _, _⟩) (by kernel_rfl) rfl (fun K hK => ?_)
        go_simp
        refine hK.out _ _ ?_ (fun hHeld2 => ?_)
        · (first | (try dsimp only); go_keep | (go_split_ands; refine ⟨?_, ?_, ?_, ?_, ?_, ?_, ?_⟩ <;> first | assumption))
        clear hK K hHeld
        have hHeld := hHeld2
        clear hHeld2
        try simp only [Act.put, lyA, lyB, lyC]
        refine AnyL.one (i := 12) (o := ⟨some 78, _, _, _, _, _⟩) (by kernel_rfl) rfl (fun K hK => ?_)
        refine step_appendT' SlDefect wX.drew rfl (.tmp 75) (.tmp 77) rfl [l, r, f, t, g] _ rfl w1.heap.size (.slice Ad nd cd) dl (by rfl) (by rfl) Hod.out ⟨rfl, i64_5M H64.out.2.2.1 H64.out.2.2.2.1 H64.out.2.2.2.2.1 H64.out.2.2.2.2.2.1 H64.out.2.2.2.2.2.2⟩ (by rw [← Hnd.out]; omega) (by rw [← Hnd.out]; omega) (by simp; omega) ?_
        intro v5 w6 ho6 hg6 hb6
        obtain ⟨A5, c5, hv5, _⟩ := ho6.form
        obtain ⟨n5, hn5⟩ : ∃ x, x = (dl ++ [[l, r, f, t, g]]).length := ⟨_, rfl⟩
        rw [← hn5] at hv5
        subst hv5
        clear hn5
        have eT := hg6.other T6 (by simp; omega) (fun e => by have := (Hob.out _ e.symm).1; omega)
        have eg := hg6.other g0 (by simp; omega) (fun e => (Hob.out _ e.symm).2 rfl)
        replace x0 := cell_same eT x0
        replace x1 := cell_same eT x1
        replace x2 := cell_same eT x2
        replace x3 := cell_same eT x3
        replace q0 := cell_same eg q0
        replace fq0 := frozen_same eg fq0
        replace d0 := cell_same (hg6.other w4.heap.size (by simpa using hXz) (fun e => by have := (Hob.out _ e.symm).1; omega)) d0
        replace d1 := cell_same (hg6.other w4.heap.size (by simpa using hXz) (fun e => by have := (Hob.out _ e.symm).1; omega)) d1
        replace d2 := cell_same (hg6.other w4.heap.size (by simpa using hXz) (fun e => by have := (Hob.out _ e.symm).1; omega)) d2
        replace d3 := cell_same (hg6.other w4.heap.size (by simpa using hXz) (fun e => by have := (Hob.out _ e.symm).1; omega)) d3
        replace d4 := cell_same (hg6.other w4.heap.size (by simpa using hXz) (fun e => by have := (Hob.out _ e.symm).1; omega)) d4
        have b6 : Below w1.heap.size wX w6 := below_drew hg6.below
        replace c20 := keepC b6 (by first | (simp; done) | (simp; omega)) c20; replace c21 := keepC b6 (by first | (simp; done) | (simp; omega)) c21; replace c22 := keepC b6 (by first | (simp; done) | (simp; omega)) c22; replace c23 := keepC b6 (by first | (simp; done) | (simp; omega)) c23
        replace f20 := keepF b6 (by first | (simp; done) | (simp; omega)) f20; replace f21 := keepF b6 (by first | (simp; done) | (simp; omega)) f21; replace f22 := keepF b6 (by first | (simp; done) | (simp; omega)) f22; replace f23 := keepF b6 (by first | (simp; done) | (simp; omega)) f23
        have Hb6 := Lib.hid (HbX.out.trans (b6.mono (by have := HZ.out; omega)))
        have hz6 : wX.heap.size ≤ w6.heap.size := by have := hg6.size; simpa using this
        have HP6 := Lib.hid (Hpt.out w6 _ _ w6.heap.size (by rw [Hdl.out]) ho6 (fun q hq hne => hg6.other q hq hne) (fun q hq => ⟨by rcases hb6 with e | e; exact .inl (e ▸ hq); exact .inr (by rw [e] at hq; injection hq with hq; simp at hq; omega), (ho6.lt q hq).2⟩) (by omega))
        clear ho6 hg6 hb6 eT eg b6 Hod HbX
        refine hK.out _ _ ?_ (fun hHeld2 => ?_)
        · (first | (try dsimp only); go_keep | (go_split_ands; refine ⟨?_, ?_, ?_, ?_, ?_, ?_, ?_⟩ <;> first | assumption))
        clear hK K hHeld
        have hHeld := hHeld2
        clear hHeld2
        try simp only [Act.put, lyA, lyB, lyC]
        refine AnyL.one (i := 13) (o := ⟨some 79, _, _, _, _, _⟩) (by kernel_rfl) rfl (fun K hK => ?_)
        go_simp
        refine hK.out _ _ ?_ (fun hHeld2 => ?_)
        · (first | (try dsimp only); go_keep | (go_split_ands; refine ⟨?_, ?_, ?_, ?_, ?_, ?_, ?_⟩ <;> first | assumption))
        clear hK K hHeld
        have hHeld := hHeld2
        clear hHeld2
        try simp only [Act.put, lyA, lyB, lyC]
        refine AnyL.one (i := 14) (o := ⟨some 80, _, _, _, _, _⟩) (by kernel_rfl) rfl (fun K hK => ?_)
        go_simp
        refine hK.out _ _ ?_ (fun hHeld2 => ?_)
        · (first | (try dsimp only); go_keep | (go_split_ands; refine ⟨?_, ?_, ?_, ?_, ?_, ?_, ?_⟩ <;> first | assumption))
        clear hK K hHeld
        have hHeld := hHeld2
        clear hHeld2
        try simp only [Act.put, lyA, lyB, lyC]
        refine AnyL.one (i := 15) (o := ⟨some 81, _, _, _, _, _⟩) (by kernel_rfl) rfl (fun K hK => ?_)
        go_simp
        refine hK.out _ _ ?_ (fun hHeld2 => ?_)
        · (first | (try dsimp only); go_keep | (go_split_ands; refine ⟨?_, ?_, ?_, ?_, ?_, ?_, ?_⟩ <;> first | assumption))
        clear hK K hHeld
        have hHeld := hHeld2
        clear hHeld2
        try simp only [Act.put, lyA, lyB, lyC]
        refine AnyL.last (o := ⟨none, _, _, _, _, _⟩) (by kernel_rfl) rfl (by kernel_rfl) (fun K hK => ?_)
        go_simp
        refine hK.out _ _ ?_
        clear hK K hHeld
        go_wp2_with fail
        obtain ⟨wz, hwz⟩ : ∃ wz, wz = w6.setCell ⟨g0, i * 5 + 3, none⟩ (.slice A5 n5 c5) := ⟨_, rfl⟩
        have ex : ∀ q, ¬ g0 = q → wz.heap[q]? = w6.heap[q]? := fun q hq => by rw [hwz]; simp only [World.setCell, Array.getElem?_modify, if_neg hq]
        have zx5 : wz.heap.size = w6.heap.size := by rw [hwz]; simp [World.setCell]
        have y0 := cell_same (ex _ hgT2) x0
        have y1 := cell_same (ex _ hgT2) x1
        have y2 := cell_same (ex _ hgT2) x2
        have y3 := cell_same (ex _ hgT2) x3
        replace c20 := cell_same (ex _ hgw2) c20
        replace c21 := cell_same (ex _ hgw2) c21
        replace c22 := cell_same (ex _ hgw2) c22
        replace c23 := cell_same (ex _ hgw2) c23
        replace f20 := frozen_same (ex _ hgw2) f20
        replace f21 := frozen_same (ex _ hgw2) f21
        replace f22 := frozen_same (ex _ hgw2) f22
        replace f23 := frozen_same (ex _ hgw2) f23
        have Hes5 := Lib.hid (show ES wz w1.heap.size wz.heap.size (.slice (some ⟨g0, 0, none⟩) es.length c2) es5 from by rw [zx5]; have h9 := HP6.out; rw [← hwz] at h9; rw [He5.out, ← Hdl.out]; exact h9.es)
        have Hbz := Lib.hid (show Below w.heap.size w wz by rw [hwz]; exact Hb6.out.setCell (p := ⟨_, _, _⟩) (by show w.heap.size ≤ g0; omega) _)
        have hwz9 : w.heap.size + 1 + 1 < wz.heap.size := by omega
        rw [← hwz]
        clear hwz ex zx5 x0 x1 x2 x3 Hb6 HP6 q0 fq0 d0 d1 d2 d3 d4
        refine (validMill_any w1.heap.size wz.heap.size _ es5 a b z wz Hes5.out (Nat.le_refl _) ⟨⟨by omega, by omega⟩, ⟨by omega, by omega⟩⟩).mono ?_
        rintro e wv ⟨rfl, bv⟩
        replace c20 := keepB bv c20; replace c21 := keepB bv c21; replace c22 := keepB bv c22; replace c23 := keepB bv c23; replace y0 := keepB bv y0; replace y1 := keepB bv y1; replace y2 := keepB bv y2; replace y3 := keepB bv y3
        replace f20 := keepF bv (by first | (simp; done) | (simp; omega)) f20; replace f21 := keepF bv (by first | (simp; done) | (simp; omega)) f21; replace f22 := keepF bv (by first | (simp; done) | (simp; omega)) f22; replace f23 := keepF bv (by first | (simp; done) | (simp; omega)) f23
        have Hbv := Lib.hid (Hbz.out.trans (bv.mono (by have := Hbz.out.size; omega)))
        have Hesv := Lib.hid (Hes5.out.below bv (Nat.le_refl _))
        have Hszv := Lib.hid bv.size
        clear bv Hbz Hes5
        cases hv : vMill es5 a b z
        · have HR := Lib.hid (HC.out.trans (chk_none (m := ⟨es5, a, b, z⟩) hv))
          clear HC hv
          go_wp2
          refine bodyPost_ret (v := .tuple #[.agg #[.slice none 0 0, .int .i64 0, .int .i64 0, .int .i64 0], .bool false]) (by simp [results, Tryz.results89, go_sem, *]) rfl ?_
          rw [HR.out]
          exact ApPost.none (((((Hbv.out.setCell (p := ⟨_, _, _⟩) (by simp; omega) _).setCell (p := ⟨_, _, _⟩) (by simp; omega) _).setCell (p := ⟨_, _, _⟩) (by simp; omega) _).setCell (p := ⟨_, _, _⟩) (by simp; omega) _))
        · have HR := Lib.hid (HC.out.trans (chk_yes (m := ⟨es5, a, b, z⟩) hv))
          clear HC hv
          obtain ⟨w9, hw9⟩ : ∃ w9, w9 = (((wv.setCell ⟨w.heap.size + 1 + 1, 0, none⟩ (.slice (some ⟨g0, 0, none⟩) es.length c2)).setCell ⟨w.heap.size + 1 + 1, 1, none⟩ (.int .i64 a)).setCell ⟨w.heap.size + 1 + 1, 2, none⟩ (.int .i64 b)).setCell ⟨w.heap.size + 1 + 1, 3, none⟩ (.int .i64 z) := ⟨_, rfl⟩
          have HE9 := Lib.hid (show ES w9 w1.heap.size wz.heap.size (.slice (some ⟨g0, 0, none⟩) es.length c2) es5 by
            rw [hw9]
            exact Hesv.out.kept fun q hq _ => by have := HZ.out; simp only [World.setCell, Array.getElem?_modify, if_neg (show ¬ w.heap.size + 1 + 1 = q by omega)])
          have HB9 := Lib.hid (show Below w.heap.size w w9 by rw [hw9]; exact (((Hbv.out.setCell (p := ⟨_, _, _⟩) (by simp; omega) _).setCell (p := ⟨_, _, _⟩) (by simp; omega) _).setCell (p := ⟨_, _, _⟩) (by simp; omega) _).setCell (p := ⟨_, _, _⟩) (by simp; omega) _)
          have HZ9 := Lib.hid (show w9.heap.size = wv.heap.size by rw [hw9]; simp [World.setCell])
          have Hw9 := Lib.hid hw9
          clear hw9
          go_wp2
          refine bodyPost_ret (v := .tuple #[.agg #[(.slice (some ⟨g0, 0, none⟩) es.length c2), .int .i64 a, .int .i64 b, .int .i64 z], .bool true]) (by simp [results, Tryz.results89, go_sem, *]) rfl ?_
          rw [← Hw9.out, HR.out]
          exact ApPost.some HB9.out (HE9.out.wide (by have := HZ.out; omega) (by have := Hszv.out; have := HZ9.out; omega))
      · by_cases hk2 : k = 2
        · subst hk2
          have HC := Lib.hid (show apE ⟨es, a, b, z⟩ ⟨2, lb, l, r, f, t, g⟩ = chk ⟨es.set i { ge es i with ps := (ge es i).ps ++ [[l, r, f, t]] }, a, b, z⟩ by
            unfold apE
            rw [if_neg hk0, if_neg hge, if_neg hk1, if_pos rfl]
            dsimp only
            rw [HtN.out])
          clear hge hk0 hk1
          go_wp2
          obtain ⟨wX, hwX⟩ : ∃ x, x = w4 := ⟨_, rfl⟩
          subst hwX
          have HoX := Lib.hid Ho4.out
          have HbX := Lib.hid Hb4.out
          have hXz : T6 < wX.heap.size := hT4
          clear Ho4 Hb4 c00 c01 c02 c03 c10 c11 c16 fx0 fx1 fx2 fx3
          obtain ⟨g0, Ad, cd, hA2, hg1, hg2, q0, fq0, hod, hob, hput⟩ := HoX.out.psAt hi9 (by decide) (by decide) (by decide)
          subst hA2
          obtain ⟨es5, he5⟩ : ∃ x, x = es.set i { ge es i with ps := (ge es i).ps ++ [[l, r, f, t]] } := ⟨_, rfl⟩
          rw [← he5] at HC
          have Hpt := Lib.hid (fun w1 d ds s (hd : ds = (ge es i).ps ++ [[l, r, f, t]]) => hput w1 d ds s)
          have Hlen := Lib.hid (show (ge es i).ps.length ≤ 1000 from (HSz.out i hi9).2)
          obtain ⟨dl, hdl⟩ : ∃ x, x = (ge es i).ps := ⟨_, rfl⟩
          rw [← hdl] at q0 hod hob Hpt Hlen
          have Hdl := Lib.hid hdl
          obtain ⟨nd, hnd⟩ : ∃ x, x = dl.length := ⟨_, rfl⟩
          rw [← hnd] at q0 hod hob Hpt Hlen
          have hnl : nd ≤ 1000 := Hlen.out
          have Hnd := Lib.hid hnd
          have Hod := Lib.hid hod
          have Hob := Lib.hid hob
          have He5 := Lib.hid he5
          have hgT : ¬ T6 = g0 := by omega
          have hgT2 : ¬ g0 = T6 := by omega
          have hgw : ¬ w.heap.size + 1 + 1 = g0 := by omega
          have hgw2 : ¬ g0 = w.heap.size + 1 + 1 := by omega
          clear hput hdl hnd hod hob he5 hin
          refine wp_region_last (S := fun w' => w'.cell? ⟨w.heap.size + 1, 2, none⟩ = some (.int .i64 l) ∧ w'.cell? ⟨w.heap.size + 1, 3, none⟩ = some (.int .i64 r) ∧ w'.cell? ⟨w.heap.size + 1, 4, none⟩ = some (.int .i64 f) ∧ w'.cell? ⟨w.heap.size + 1, 5, none⟩ = some (.int .i64 t) ∧ w'.cell? ⟨T6, 0, none⟩ = some (.slice (some ⟨g0, 0, none⟩) es.length c2) ∧ w'.cell? ⟨g0, i * 5 + 4, none⟩ = some (.slice Ad nd cd)) 15 (by kernel_rfl) ?_ (fun hHeld => ?_)
          · (first | (try dsimp only); go_keep | (go_split_ands; refine ⟨?_, ?_, ?_, ?_, ?_, ?_⟩ <;> first | assumption))
          refine AnyL.take (i := 0) (oi := ⟨some 84, _, _, _, _, _⟩) (v := _) rfl (by kernel_rfl) (by kernel_rfl) (by kernel_rfl) (by kernel_rfl) (fun _ _ _ h => h) (Or.inl ⟨by kernel_rfl, by intro w hSw; (try dsimp only at hSw); go_simp; try with_reducible rfl⟩) (by assumption) ?_
          simp only [Act.put, lyA, lyB, lyC]
          refine AnyL.take (i := 1) (oi := ⟨some 85, _, _, _, _, _⟩) (v := _) rfl (by kernel_rfl) (by kernel_rfl) (by kernel_rfl) (by kernel_rfl) (fun _ _ _ h => h) (Or.inl ⟨by kernel_rfl, by intro w hSw; (try dsimp only at hSw); go_simp; try with_reducible rfl⟩) (by assumption) ?_
          simp only [Act.put, lyA, lyB, lyC]
          refine AnyL.take (i := 2) (oi := ⟨some 86, _, _, _, _, _⟩) (v := _) rfl (by kernel_rfl) (by kernel_rfl) (by kernel_rfl) (by kernel_rfl) (fun _ _ _ h => h) (Or.inl ⟨by kernel_rfl, by intro w hSw; (try dsimp only at hSw); go_simp; try with_reducible rfl⟩) (by assumption) ?_
          simp only [Act.put, lyA, lyB, lyC]
          refine AnyL.take (i := 3) (oi := ⟨some 87, _, _, _, _, _⟩) (v := _) rfl (by kernel_rfl) (by kernel_rfl) (by kernel_rfl) (by kernel_rfl) (fun _ _ _ h => h) (Or.inl ⟨by kernel_rfl, by intro w hSw; (try dsimp only at hSw); go_simp; try with_reducible rfl⟩) (by assumption) ?_
          simp only [Act.put, lyA, lyB, lyC]
          refine AnyL.take (i := 4) (oi := ⟨some 88, _, _, _, _, _⟩) (v := _) rfl (by kernel_rfl) (by kernel_rfl) (by kernel_rfl) (by kernel_rfl) (fun _ _ _ h => h) (Or.inl ⟨by kernel_rfl, by intro w hSw; (try dsimp only at hSw); go_simp; try with_reducible rfl⟩) (by assumption) ?_
          simp only [Act.put, lyA, lyB, lyC]
          refine AnyL.take (i := 5) (oi := ⟨some 89, _, _, _, _, _⟩) (v := _) rfl (by kernel_rfl) (by kernel_rfl) (by kernel_rfl) (by kernel_rfl) (fun _ _ _ h => h) (Or.inl ⟨by kernel_rfl, by intro w hSw; (try dsimp only at hSw); go_simp; try with_reducible rfl⟩) (by assumption) ?_
          simp only [Act.put, lyA, lyB, lyC]
          refine AnyL.take (i := 6) (oi := ⟨some 90, _, _, _, _, _⟩) (v := _) rfl (by kernel_rfl) (by kernel_rfl) (by kernel_rfl) (by kernel_rfl) (fun _ _ _ h => h) (Or.inl ⟨by kernel_rfl, by intro w hSw; (try dsimp only at hSw); go_simp; try with_reducible rfl⟩) (by assumption) ?_
          simp only [Act.put, lyA, lyB, lyC]
          refine AnyL.take (i := 7) (oi := ⟨some 91, _, _, _, _, _⟩) (v := _) rfl (by kernel_rfl) (by kernel_rfl) (by kernel_rfl) (by kernel_rfl) (fun _ _ _ h => h) (Or.inl ⟨by kernel_rfl, by intro w hSw; (try dsimp only at hSw); go_simp; try with_reducible rfl⟩) (by assumption) ?_
          simp only [Act.put, lyA, lyB, lyC]
          refine AnyL.take (i := 8) (oi := ⟨some 92, _, _, _, _, _⟩) (v := _) rfl (by kernel_rfl) (by kernel_rfl) (by kernel_rfl) (by kernel_rfl) (fun _ _ _ h => h) (Or.inl ⟨by kernel_rfl, by intro w hSw; (try dsimp only at hSw); go_simp; try with_reducible rfl⟩) (by assumption) ?_
          simp only [Act.put, lyA, lyB, lyC]
          refine AnyL.take (i := 9) (oi := ⟨some 93, _, _, _, _, _⟩) (v := _) rfl (by kernel_rfl) (by kernel_rfl) (by kernel_rfl) (by kernel_rfl) (fun _ _ _ h => h) (Or.inl ⟨by kernel_rfl, by intro w hSw; (try dsimp only at hSw); go_simp; try with_reducible rfl⟩) (by assumption) ?_
          simp only [Act.put, lyA, lyB, lyC]
          refine AnyL.take (i := 10) (oi := ⟨some 94, _, _, _, _, _⟩) (v := _) rfl (by kernel_rfl) (by kernel_rfl) (by kernel_rfl) (by kernel_rfl) (fun _ _ _ h => h) (Or.inl ⟨by kernel_rfl, by intro w hSw; (try dsimp only at hSw); go_simp; try with_reducible rfl⟩) (by assumption) ?_
          simp only [Act.put, lyA, lyB, lyC]
          refine AnyL.one (i := 11) (o := ⟨some 95, _, _, _, _, _⟩) (by kernel_rfl) rfl (fun K hK => ?_)
          go_simp
          refine hK.out _ _ ?_ (fun hHeld2 => ?_)
          · (first | (try dsimp only); go_keep | (go_split_ands; refine ⟨?_, ?_, ?_, ?_, ?_, ?_⟩ <;> first | assumption))
          clear hK K hHeld
          have hHeld := hHeld2
          clear hHeld2
          try simp only [Act.put, lyA, lyB, lyC]
          refine AnyL.one (i := 12) (o := ⟨some 96, _, _, _, _, _⟩) (by kernel_rfl) rfl (fun K hK => ?_)
          refine step_appendT' SlPart wX.drew rfl (.tmp 92) (.tmp 95) rfl [l, r, f, t] _ rfl w1.heap.size (.slice Ad nd cd) dl (by rfl) (by rfl) Hod.out ⟨rfl, i64_4M H64.out.2.2.1 H64.out.2.2.2.1 H64.out.2.2.2.2.1 H64.out.2.2.2.2.2.1⟩ (by rw [← Hnd.out]; omega) (by rw [← Hnd.out]; omega) (by simp; omega) ?_
          intro v5 w6 ho6 hg6 hb6
          obtain ⟨A5, c5, hv5, _⟩ := ho6.form
          obtain ⟨n5, hn5⟩ : ∃ x, x = (dl ++ [[l, r, f, t]]).length := ⟨_, rfl⟩
          rw [← hn5] at hv5
          subst hv5
          clear hn5
          have eT := hg6.other T6 (by simp; omega) (fun e => by have := (Hob.out _ e.symm).1; omega)
          have eg := hg6.other g0 (by simp; omega) (fun e => (Hob.out _ e.symm).2 rfl)
          replace x0 := cell_same eT x0
          replace x1 := cell_same eT x1
          replace x2 := cell_same eT x2
          replace x3 := cell_same eT x3
          replace q0 := cell_same eg q0
          replace fq0 := frozen_same eg fq0
          have b6 : Below w1.heap.size wX w6 := below_drew hg6.below
          replace c20 := keepC b6 (by first | (simp; done) | (simp; omega)) c20; replace c21 := keepC b6 (by first | (simp; done) | (simp; omega)) c21; replace c22 := keepC b6 (by first | (simp; done) | (simp; omega)) c22; replace c23 := keepC b6 (by first | (simp; done) | (simp; omega)) c23
          replace f20 := keepF b6 (by first | (simp; done) | (simp; omega)) f20; replace f21 := keepF b6 (by first | (simp; done) | (simp; omega)) f21; replace f22 := keepF b6 (by first | (simp; done) | (simp; omega)) f22; replace f23 := keepF b6 (by first | (simp; done) | (simp; omega)) f23
          replace c12 := keepC b6 (by first | (simp; done) | (simp; omega)) c12; replace c13 := keepC b6 (by first | (simp; done) | (simp; omega)) c13; replace c14 := keepC b6 (by first | (simp; done) | (simp; omega)) c14; replace c15 := keepC b6 (by first | (simp; done) | (simp; omega)) c15
          have Hb6 := Lib.hid (HbX.out.trans (b6.mono (by have := HZ.out; omega)))
          have hz6 : wX.heap.size ≤ w6.heap.size := by have := hg6.size; simpa using this
          have HP6 := Lib.hid (Hpt.out w6 _ _ w6.heap.size (by rw [Hdl.out]) ho6 (fun q hq hne => hg6.other q hq hne) (fun q hq => ⟨by rcases hb6 with e | e; exact .inl (e ▸ hq); exact .inr (by rw [e] at hq; injection hq with hq; simp at hq; omega), (ho6.lt q hq).2⟩) (by omega))
          clear ho6 hg6 hb6 eT eg b6 Hod HbX
          refine hK.out _ _ ?_ (fun hHeld2 => ?_)
          · (first | (try dsimp only); go_keep | (go_split_ands; refine ⟨?_, ?_, ?_, ?_, ?_, ?_⟩ <;> first | assumption))
          clear hK K hHeld
          have hHeld := hHeld2
          clear hHeld2
          try simp only [Act.put, lyA, lyB, lyC]
          refine AnyL.one (i := 13) (o := ⟨some 97, _, _, _, _, _⟩) (by kernel_rfl) rfl (fun K hK => ?_)
          go_simp
          refine hK.out _ _ ?_ (fun hHeld2 => ?_)
          · (first | (try dsimp only); go_keep | (go_split_ands; refine ⟨?_, ?_, ?_, ?_, ?_, ?_⟩ <;> first | assumption))
          clear hK K hHeld
          have hHeld := hHeld2
          clear hHeld2
          try simp only [Act.put, lyA, lyB, lyC]
          refine AnyL.one (i := 14) (o := ⟨some 98, _, _, _, _, _⟩) (by kernel_rfl) rfl (fun K hK => ?_)
          go_simp
          refine hK.out _ _ ?_ (fun hHeld2 => ?_)
          · (first | (try dsimp only); go_keep | (go_split_ands; refine ⟨?_, ?_, ?_, ?_, ?_, ?_⟩ <;> first | assumption))
          clear hK K hHeld
          have hHeld := hHeld2
          clear hHeld2
          try simp only [Act.put, lyA, lyB, lyC]
          refine AnyL.last (o := ⟨none, _, _, _, _, _⟩) (by kernel_rfl) rfl (by kernel_rfl) (fun K hK => ?_)
          go_simp
          refine hK.out _ _ ?_
          clear hK K hHeld
          go_wp2_with fail
          obtain ⟨wz, hwz⟩ : ∃ wz, wz = w6.setCell ⟨g0, i * 5 + 4, none⟩ (.slice A5 n5 c5) := ⟨_, rfl⟩
          have ex : ∀ q, ¬ g0 = q → wz.heap[q]? = w6.heap[q]? := fun q hq => by rw [hwz]; simp only [World.setCell, Array.getElem?_modify, if_neg hq]
          have zx5 : wz.heap.size = w6.heap.size := by rw [hwz]; simp [World.setCell]
          have y0 := cell_same (ex _ hgT2) x0
          have y1 := cell_same (ex _ hgT2) x1
          have y2 := cell_same (ex _ hgT2) x2
          have y3 := cell_same (ex _ hgT2) x3
          replace c20 := cell_same (ex _ hgw2) c20
          replace c21 := cell_same (ex _ hgw2) c21
          replace c22 := cell_same (ex _ hgw2) c22
          replace c23 := cell_same (ex _ hgw2) c23
          replace f20 := frozen_same (ex _ hgw2) f20
          replace f21 := frozen_same (ex _ hgw2) f21
          replace f22 := frozen_same (ex _ hgw2) f22
          replace f23 := frozen_same (ex _ hgw2) f23
          have Hes5 := Lib.hid (show ES wz w1.heap.size wz.heap.size (.slice (some ⟨g0, 0, none⟩) es.length c2) es5 from by rw [zx5]; have h9 := HP6.out; rw [← hwz] at h9; rw [He5.out, ← Hdl.out]; exact h9.es)
          have Hbz := Lib.hid (show Below w.heap.size w wz by rw [hwz]; exact Hb6.out.setCell (p := ⟨_, _, _⟩) (by show w.heap.size ≤ g0; omega) _)
          have hwz9 : w.heap.size + 1 + 1 < wz.heap.size := by omega
          rw [← hwz]
          clear hwz ex zx5 x0 x1 x2 x3 Hb6 HP6 q0 fq0 c12 c13 c14 c15
          refine (validMill_any w1.heap.size wz.heap.size _ es5 a b z wz Hes5.out (Nat.le_refl _) ⟨⟨by omega, by omega⟩, ⟨by omega, by omega⟩⟩).mono ?_
          rintro e wv ⟨rfl, bv⟩
          replace c20 := keepB bv c20; replace c21 := keepB bv c21; replace c22 := keepB bv c22; replace c23 := keepB bv c23; replace y0 := keepB bv y0; replace y1 := keepB bv y1; replace y2 := keepB bv y2; replace y3 := keepB bv y3
          replace f20 := keepF bv (by first | (simp; done) | (simp; omega)) f20; replace f21 := keepF bv (by first | (simp; done) | (simp; omega)) f21; replace f22 := keepF bv (by first | (simp; done) | (simp; omega)) f22; replace f23 := keepF bv (by first | (simp; done) | (simp; omega)) f23
          have Hbv := Lib.hid (Hbz.out.trans (bv.mono (by have := Hbz.out.size; omega)))
          have Hesv := Lib.hid (Hes5.out.below bv (Nat.le_refl _))
          have Hszv := Lib.hid bv.size
          clear bv Hbz Hes5
          cases hv : vMill es5 a b z
          · have HR := Lib.hid (HC.out.trans (chk_none (m := ⟨es5, a, b, z⟩) hv))
            clear HC hv
            go_wp2
            refine bodyPost_ret (v := .tuple #[.agg #[.slice none 0 0, .int .i64 0, .int .i64 0, .int .i64 0], .bool false]) (by simp [results, Tryz.results89, go_sem, *]) rfl ?_
            rw [HR.out]
            exact ApPost.none (((((Hbv.out.setCell (p := ⟨_, _, _⟩) (by simp; omega) _).setCell (p := ⟨_, _, _⟩) (by simp; omega) _).setCell (p := ⟨_, _, _⟩) (by simp; omega) _).setCell (p := ⟨_, _, _⟩) (by simp; omega) _))
          · have HR := Lib.hid (HC.out.trans (chk_yes (m := ⟨es5, a, b, z⟩) hv))
            clear HC hv
            obtain ⟨w9, hw9⟩ : ∃ w9, w9 = (((wv.setCell ⟨w.heap.size + 1 + 1, 0, none⟩ (.slice (some ⟨g0, 0, none⟩) es.length c2)).setCell ⟨w.heap.size + 1 + 1, 1, none⟩ (.int .i64 a)).setCell ⟨w.heap.size + 1 + 1, 2, none⟩ (.int .i64 b)).setCell ⟨w.heap.size + 1 + 1, 3, none⟩ (.int .i64 z) := ⟨_, rfl⟩
            have HE9 := Lib.hid (show ES w9 w1.heap.size wz.heap.size (.slice (some ⟨g0, 0, none⟩) es.length c2) es5 by
              rw [hw9]
              exact Hesv.out.kept fun q hq _ => by have := HZ.out; simp only [World.setCell, Array.getElem?_modify, if_neg (show ¬ w.heap.size + 1 + 1 = q by omega)])
            have HB9 := Lib.hid (show Below w.heap.size w w9 by rw [hw9]; exact (((Hbv.out.setCell (p := ⟨_, _, _⟩) (by simp; omega) _).setCell (p := ⟨_, _, _⟩) (by simp; omega) _).setCell (p := ⟨_, _, _⟩) (by simp; omega) _).setCell (p := ⟨_, _, _⟩) (by simp; omega) _)
            have HZ9 := Lib.hid (show w9.heap.size = wv.heap.size by rw [hw9]; simp [World.setCell])
            have Hw9 := Lib.hid hw9
            clear hw9
            go_wp2
            refine bodyPost_ret (v := .tuple #[.agg #[(.slice (some ⟨g0, 0, none⟩) es.length c2), .int .i64 a, .int .i64 b, .int .i64 z], .bool true]) (by simp [results, Tryz.results89, go_sem, *]) rfl ?_
            rw [← Hw9.out, HR.out]
            exact ApPost.some HB9.out (HE9.out.wide (by have := HZ.out; omega) (by have := Hszv.out; have := HZ9.out; omega))
        · have hb1 : (k == 1) = false := beq_f hk1
          have hb2 : (k == 2) = false := beq_f hk2
          by_cases hk3 : k = 3
          · subst hk3
            have HC := Lib.hid (show apE ⟨es, a, b, z⟩ ⟨3, lb, l, r, f, t, g⟩ = chk ⟨es.eraseIdx i, a, b + goodA (ge es i) g, z + ((ge es i).W * (ge es i).L - goodA (ge es i) g)⟩ by
              unfold apE
              rw [if_neg hk0, if_neg hge, if_neg hk1, if_neg hk2, if_pos rfl]
              dsimp only
              rw [HtN.out])
            have hgl := good_le HVE.out g
            have har := area_rng HVE.out
            clear hge hk0 hk1 hk2
            go_wp2_with fail
            refine (shipReel_any w1.heap.size T6 _ es a b z g i w4 Ho4.out.es (by omega) (by omega) hi9 HVE.out hb9 hz9).mono ?_
            rintro e w5 ⟨v5, rfl, ho5, b5⟩
            obtain ⟨A5, c5, hv5, _⟩ := ho5.form
            obtain ⟨es5, he5⟩ : ∃ x, x = es.eraseIdx i := ⟨_, rfl⟩
            rw [← he5] at hv5 ho5 HC
            obtain ⟨n5, hn5⟩ : ∃ x, x = es5.length := ⟨_, rfl⟩
            rw [← hn5] at hv5
            subst hv5
            obtain ⟨G, hG⟩ : ∃ x, x = goodA (ge es i) g := ⟨_, rfl⟩
            rw [← hG] at HC hgl ⊢
            obtain ⟨WL, hWL⟩ : ∃ x, x = (ge es i).W * (ge es i).L := ⟨_, rfl⟩
            rw [← hWL] at HC hgl har ⊢
            replace c10 := keepB b5 c10; replace c20 := keepB b5 c20; replace c21 := keepB b5 c21; replace c22 := keepB b5 c22; replace c23 := keepB b5 c23; replace x0 := keepB b5 x0; replace x1 := keepB b5 x1; replace x2 := keepB b5 x2; replace x3 := keepB b5 x3
            replace f20 := keepF b5 (by first | (simp; done) | (simp; omega)) f20; replace f21 := keepF b5 (by first | (simp; done) | (simp; omega)) f21; replace f22 := keepF b5 (by first | (simp; done) | (simp; omega)) f22; replace f23 := keepF b5 (by first | (simp; done) | (simp; omega)) f23; replace fx0 := keepF b5 (by first | (simp; done) | (simp; omega)) fx0; replace fx1 := keepF b5 (by first | (simp; done) | (simp; omega)) fx1; replace fx2 := keepF b5 (by first | (simp; done) | (simp; omega)) fx2; replace fx3 := keepF b5 (by first | (simp; done) | (simp; omega)) fx3
            have Hb5 := Lib.hid (Hb4.out.trans (b5.mono (by omega)))
            have hz5 := b5.size
            have Hox := Lib.hid ho5
            clear b5 he5 hn5 hG hWL c00 c01 c02 c03 c11 c12 c13 c14 c15 c16 ho5
            go_wp2_with fail
            obtain ⟨wz, hwz⟩ : ∃ wz, wz = (((w5.setCell ⟨T6, 0, none⟩ (.slice A5 n5 c5)).setCell ⟨T6, 1, none⟩ (.int .i64 a)).setCell ⟨T6, 2, none⟩ (.int .i64 (b + G))).setCell ⟨T6, 3, none⟩ (.int .i64 (z + (WL - G))) := ⟨_, rfl⟩
            have y0 : wz.cell? ⟨T6, 0, none⟩ = some (.slice A5 n5 c5) := by rw [hwz]; go_simp
            have y1 : wz.cell? ⟨T6, 1, none⟩ = some (.int .i64 a) := by rw [hwz]; go_simp
            have y2 : wz.cell? ⟨T6, 2, none⟩ = some (.int .i64 (b + G)) := by rw [hwz]; go_simp
            have y3 : wz.cell? ⟨T6, 3, none⟩ = some (.int .i64 (z + (WL - G))) := by rw [hwz]; go_simp
            have ex : ∀ q, ¬ T6 = q → wz.heap[q]? = w5.heap[q]? := fun q hq => by rw [hwz]; simp only [World.setCell, Array.getElem?_modify, if_neg hq]
            have zx5 : wz.heap.size = w5.heap.size := by rw [hwz]; simp [World.setCell]
            replace c20 := cell_same (ex _ hTn2) c20
            replace c21 := cell_same (ex _ hTn2) c21
            replace c22 := cell_same (ex _ hTn2) c22
            replace c23 := cell_same (ex _ hTn2) c23
            replace f20 := frozen_same (ex _ hTn2) f20
            replace f21 := frozen_same (ex _ hTn2) f21
            replace f22 := frozen_same (ex _ hTn2) f22
            replace f23 := frozen_same (ex _ hTn2) f23
            have Hes5 := Lib.hid ((Hox.out.kept (w' := wz) (fun q hq _ => ex q (by omega)) (fun q _ hq => ex q (by omega))).es (by omega) (by omega))
            have Hbz := Lib.hid (show Below w.heap.size w wz by rw [hwz]; exact (((Hb5.out.setCell (p := ⟨_, _, _⟩) (by show w.heap.size ≤ T6; omega) _).setCell (p := ⟨_, _, _⟩) (by show w.heap.size ≤ T6; omega) _).setCell (p := ⟨_, _, _⟩) (by show w.heap.size ≤ T6; omega) _).setCell (p := ⟨_, _, _⟩) (by show w.heap.size ≤ T6; omega) _)
            have hwz9 : w.heap.size + 1 + 1 < wz.heap.size := by omega
            rw [← hwz]
            clear hwz ex zx5 x0 x1 x2 x3 fx0 fx1 fx2 fx3 Hb5
            refine (validMill_any w1.heap.size wz.heap.size _ es5 a (b + G) (z + (WL - G)) wz Hes5.out (Nat.le_refl _) ⟨⟨by omega, by omega⟩, ⟨by omega, by omega⟩⟩).mono ?_
            rintro e wv ⟨rfl, bv⟩
            replace c20 := keepB bv c20; replace c21 := keepB bv c21; replace c22 := keepB bv c22; replace c23 := keepB bv c23; replace y0 := keepB bv y0; replace y1 := keepB bv y1; replace y2 := keepB bv y2; replace y3 := keepB bv y3
            replace f20 := keepF bv (by first | (simp; done) | (simp; omega)) f20; replace f21 := keepF bv (by first | (simp; done) | (simp; omega)) f21; replace f22 := keepF bv (by first | (simp; done) | (simp; omega)) f22; replace f23 := keepF bv (by first | (simp; done) | (simp; omega)) f23
            have Hbv := Lib.hid (Hbz.out.trans (bv.mono (by have := Hbz.out.size; omega)))
            have Hesv := Lib.hid (Hes5.out.below bv (Nat.le_refl _))
            have Hszv := Lib.hid bv.size
            clear bv Hbz Hes5
            cases hv : vMill es5 a (b + G) (z + (WL - G))
            · have HR := Lib.hid (HC.out.trans (chk_none (m := ⟨es5, a, (b + G), (z + (WL - G))⟩) hv))
              clear HC hv
              go_wp2
              refine bodyPost_ret (v := .tuple #[.agg #[.slice none 0 0, .int .i64 0, .int .i64 0, .int .i64 0], .bool false]) (by simp [results, Tryz.results89, go_sem, *]) rfl ?_
              rw [HR.out]
              exact ApPost.none (((((Hbv.out.setCell (p := ⟨_, _, _⟩) (by simp; omega) _).setCell (p := ⟨_, _, _⟩) (by simp; omega) _).setCell (p := ⟨_, _, _⟩) (by simp; omega) _).setCell (p := ⟨_, _, _⟩) (by simp; omega) _))
            · have HR := Lib.hid (HC.out.trans (chk_yes (m := ⟨es5, a, (b + G), (z + (WL - G))⟩) hv))
              clear HC hv
              obtain ⟨w9, hw9⟩ : ∃ w9, w9 = (((wv.setCell ⟨w.heap.size + 1 + 1, 0, none⟩ (.slice A5 n5 c5)).setCell ⟨w.heap.size + 1 + 1, 1, none⟩ (.int .i64 a)).setCell ⟨w.heap.size + 1 + 1, 2, none⟩ (.int .i64 (b + G))).setCell ⟨w.heap.size + 1 + 1, 3, none⟩ (.int .i64 (z + (WL - G))) := ⟨_, rfl⟩
              have HE9 := Lib.hid (show ES w9 w1.heap.size wz.heap.size (.slice A5 n5 c5) es5 by
                rw [hw9]
                exact Hesv.out.kept fun q hq _ => by have := HZ.out; simp only [World.setCell, Array.getElem?_modify, if_neg (show ¬ w.heap.size + 1 + 1 = q by omega)])
              have HB9 := Lib.hid (show Below w.heap.size w w9 by rw [hw9]; exact (((Hbv.out.setCell (p := ⟨_, _, _⟩) (by simp; omega) _).setCell (p := ⟨_, _, _⟩) (by simp; omega) _).setCell (p := ⟨_, _, _⟩) (by simp; omega) _).setCell (p := ⟨_, _, _⟩) (by simp; omega) _)
              have HZ9 := Lib.hid (show w9.heap.size = wv.heap.size by rw [hw9]; simp [World.setCell])
              have Hw9 := Lib.hid hw9
              clear hw9
              go_wp2
              refine bodyPost_ret (v := .tuple #[.agg #[(.slice A5 n5 c5), .int .i64 a, .int .i64 (b + G), .int .i64 (z + (WL - G))], .bool true]) (by simp [results, Tryz.results89, go_sem, *]) rfl ?_
              rw [← Hw9.out, HR.out]
              exact ApPost.some HB9.out (HE9.out.wide (by have := HZ.out; omega) (by have := Hszv.out; have := HZ9.out; omega))
          · have hb3 : (k == 3) = false := beq_f hk3
            have HR := Lib.hid (show apE ⟨es, a, b, z⟩ ⟨k, lb, l, r, f, t, g⟩ = none by
              unfold apE
              rw [if_neg hk0, if_neg hge, if_neg hk1, if_neg hk2, if_neg hk3])
            clear hge hk0 hk1 hk2 hk3
            go_wp2
            refine bodyPost_ret (v := .tuple #[.agg #[.slice none 0 0, .int .i64 0, .int .i64 0, .int .i64 0], .bool false]) (by simp [results, Tryz.results89, go_sem, *]) rfl ?_
            rw [HR.out]
            exact ApPost.none (((((Hb4.out.setCell (p := ⟨_, _, _⟩) (by simp; omega) _).setCell (p := ⟨_, _, _⟩) (by simp; omega) _).setCell (p := ⟨_, _, _⟩) (by simp; omega) _).setCell (p := ⟨_, _, _⟩) (by simp; omega) _))
end Go.Proofs.YtkgepklapglmdaaGreatDoor
