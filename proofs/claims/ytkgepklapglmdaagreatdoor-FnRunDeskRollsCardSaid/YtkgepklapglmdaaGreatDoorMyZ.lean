/-
  Texts merged into one: what each function does, and plain lemmas. No condition.
-/
import Derived.Test.YtkgepklapglmdaaGreatDoorMillU
import Derived.Test.YtkgepklapglmdaaGreatDoorMlK
namespace Go.Proofs.YtkgepklapglmdaaGreatDoor
open Go.RowKit
attribute [local go_sem ↓] Go.wp_at_zero Go.wp_at_succ

end Go.Proofs.YtkgepklapglmdaaGreatDoor

namespace Go.Proofs.YtkgepklapglmdaaGreatDoor
open Go.RowKit
attribute [local go_sem ↓] Go.wp_at_zero Go.wp_at_succ

theorem TS.dropT {w : World} {lo hi k n c b o : Nat} {xss : List (List Int)} (h : TS w lo hi k (.slice (some ⟨b, o, none⟩) n c) xss) {m : Nat} (hm' : m ≤ xss.length) : TS w lo hi k (.slice (some ⟨b, o + m * k, none⟩) (n - m) (c - m)) (xss.drop m) := by
  obtain ⟨A', c', e, hc, hm, ⟨hl, hr⟩, hall⟩ := h
  obtain ⟨rfl, rfl, rfl⟩ : (some ⟨b, o, none⟩ : Option Addr) = A' ∧ n = xss.length ∧ c = c' := by simpa using e
  have hli : (xss.drop m).length = xss.length - m := by rw [List.length_drop]
  have hall' : ∀ x ∈ xss.drop m, x.length = k ∧ ∀ y ∈ x, I64 y := fun x hx => hall x (List.mem_of_mem_drop hx)
  refine ⟨_, c - m, by rw [hli], by omega, by omega, ⟨flatT_len fun x hx => (hall' x hx).1, fun h0 => ?_⟩, hall'⟩
  rw [hli] at h0
  obtain ⟨b', o', e1, h1, h2, h3⟩ := hr (by omega)
  simp only [Option.some.injEq, Addr.mk.injEq, and_true] at e1
  obtain ⟨rfl, rfl⟩ := e1
  refine ⟨b, o + m * k, rfl, h1, h2, fun j u hu => ?_⟩
  rw [Nat.add_assoc]
  refine h3 (m * k + j) u ?_
  have e2 : flatT xss = flatT (xss.take m) ++ flatT (xss.drop m) := by rw [← flatT_append, List.take_append_drop]
  have e3 : (flatT (xss.take m)).length = m * k := by rw [flatT_len fun x hx => (hall x (List.mem_of_mem_take hx)).1, List.length_take, Nat.min_eq_left hm']
  rw [e2, List.getElem?_append_right (by omega), e3, Nat.add_sub_cancel_left]
  exact hu
theorem evT_drop (evs : List Evt) (m : Nat) : (evT evs).drop m = evT (evs.drop m) := by unfold evT; rw [List.map_drop]
theorem evT_set {evs : List Evt} {q : Nat} (h : q < evs.length) (e : Evt) (j : Nat) (y : Int) (he : (ve evs q).row.set j y = e.row) : set2 (evT evs) q j y = evT (evs.set q e) := by
  unfold set2
  rw [ve_row h, he]
  unfold evT
  rw [List.map_set]
/-- a book that was drawn and may not be possible -/
def AbPost (B k g : Nat) (v : Value) (w : World) (e : Ending) (w' : World) : Prop := ∃ (A : Option Addr) (n c : Nat) (evs : List Evt), e = .returned (.slice A n c) ∧ n = evs.length ∧ TS w' w.heap.size w'.heap.size 7 (.slice A n c) (evT evs) ∧ evs.length ≤ 20 ∧ w.grownBy w' (some g) ∧ ∃ k', k' ≤ k + 330 ∧ Rdr w' B k' g v
set_option maxRecDepth 100000 in
set_option maxHeartbeats 8000000 in
theorem anyBook_any (B k g : Nat) (v : Value) (w : World) (h : Rdr w B k g v) (hk : k ≤ 600000) :
    Calls Tryz.prog 96 #[v] w fun e w' => AbPost B k g v w e w' := by
  have hg0 := h.lt
  have hva : ∃ gg, v = .pointer gg := by obtain ⟨_, _, _, _, e, _⟩ := h; exact ⟨_, e⟩
  obtain ⟨gg, rfl⟩ := hva
  go_enter Tryz.func96, Tryz.ntmps96
  go_wp2_with fail
  refine (someBook_any B k g _ w h hk).mono ?_
  rintro e w2 ⟨vs, u, evs, ⟨es, a, b, z⟩, k2, rfl, hov, hes, _, _, hl20, hk2, hr3, bg⟩
  dsimp only at hes ⊢
  obtain ⟨A, c, rfl, hc, hm⟩ := hes.form
  obtain ⟨A5, c5, rfl, hc5, _⟩ := hov.form
  have hlen := evT_len evs
  rw [hlen] at hov hc5 ⊢
  have hgw := bg.size
  clear hes
  by_cases hn : 1 < evs.length
  rotate_left
  · have hn1 : ¬ (1 : Int) < (evs.length : Int) := by omega
    have hn2 : ¬ (evs.length : Int) > 1 := by omega
    go_wp2
    go_ret
    have bx : Below w2.heap.size w2 (w2.alloc (.cells #[.slice A es.length c, .int .i64 a, .int .i64 b, .int .i64 z] 25)) := (Below.refl _ _).alloc (Nat.le_refl _) _
    exact ⟨A5, evs.length, c5, evs, rfl, rfl, ((hov.ts.below bx (Nat.le_refl _)).wide (Nat.le_refl _) bx.size), hl20, grown_trans bg (grown_below bx (some g)), k2, by omega, hr3.below bx⟩
  have hn1 : (1 : Int) < (evs.length : Int) := by omega
  have hn2 : (evs.length : Int) > 1 := by omega
  obtain ⟨g0, rfl, hgb, hgs, _, _, _⟩ := hov.at_ (i := 0) (by rw [hlen]; omega) (by omega)
  go_wp2_with fail
  obtain ⟨w3, hw1⟩ : ∃ w3, w3 = w2.alloc (.cells #[.slice A es.length c, .int .i64 a, .int .i64 b, .int .i64 z] 25) := ⟨_, rfl⟩
  have x0 : w3.cell? ⟨w2.heap.size, 0, none⟩ = some (.slice A es.length c) := by rw [hw1]; go_simp
  have x1 : w3.cell? ⟨w2.heap.size, 1, none⟩ = some (.int .i64 a) := by rw [hw1]; go_simp
  have x2 : w3.cell? ⟨w2.heap.size, 2, none⟩ = some (.int .i64 b) := by rw [hw1]; go_simp
  have x3 : w3.cell? ⟨w2.heap.size, 3, none⟩ = some (.int .i64 z) := by rw [hw1]; go_simp
  have bx : Below w2.heap.size w2 w3 := by rw [hw1]; exact (Below.refl _ _).alloc (Nat.le_refl _) _
  have zx : w2.heap.size < w3.heap.size := by rw [hw1]; simp
  rw [← hw1]
  clear hw1
  have hr4 := hr3.below bx
  have ho4 := hov.kept (.of_below bx (Nat.le_refl _))
  have hgr4 := grown_trans bg (grown_below bx (some g))
  have hz4 : g0 < w3.heap.size := by omega
  clear bx hr3 bg hov x0 x1 x2 x3
  refine (pick_any B k2 g _ 10 w3 hr4 (by omega) (by omega)).mono ?_
  rintro e w4 ⟨q, rfl, hm9, hr5, bo9⟩
  have q_r := hm9.rng (m := 10) (by omega) (by omega)
  have ho5 := ho4.kept (bo9.kept (.inr (by omega)))
  have hgr5 := grown_trans hgr4 (grown_only bo9)
  have hz5 : g0 < w4.heap.size := by have := bo9.size; omega
  clear bo9 hm9 hr4 ho4 hgr4
  by_cases hq0 : q = 0
  · have e0 : (q == 0) = true := beq_t hq0
    have hc1 : ¬ c5 = 1 := by omega
    have hts := (ho5.ts.dropT (m := 1) (by rw [hlen]; omega))
    rw [evT_drop] at hts
    have Hts := Lib.hid hts
    have Hgr := Lib.hid hgr5
    have hel : (evs.drop 1).length = evs.length - 1 := by rw [List.length_drop]
    have Hel := Lib.hid hel
    clear hq0 hts hgr5 ho5 hel
    go_wp2
    go_ret
    refine ⟨some ⟨g0, 7, none⟩, evs.length - 1, c5 - 1, evs.drop 1, ?_, Hel.out.symm, ?_, by rw [Hel.out]; omega, Hgr.out, k2 + 1, by omega, hr5⟩
    · first | rfl | (simp; omega) | (congr 1; simp; omega)
    · have := Hts.out; simpa using this
  have e0 : (q == 0) = false := beq_f hq0
  clear hq0
  by_cases hq1 : q = 1
  · have e1 : (q == 1) = true := beq_t hq1
    clear hq1
    go_wp2_with fail
    refine (pick_any B (k2 + 1) g _ evs.length w4 hr5 (by omega) (by omega)).mono ?_
    rintro e w5 ⟨qi, rfl, hm9, hr6, bo9⟩
    have qr := hm9.2 (by omega)
    obtain ⟨q1, rfl⟩ := Int.eq_ofNat_of_zero_le qr.1
    have hqa : (0 : Int) ≤ (q1 : Int) := by omega
    have hqb : (q1 : Int) < (evs.length : Int) := qr.2
    have ho6 := ho5.kept (bo9.kept (.inr (by omega)))
    have hgr6 := grown_trans hgr5 (grown_only bo9)
    have hz6 : g0 < w5.heap.size := by have := bo9.size; omega
    have hs6 : w.heap.size ≤ w5.heap.size := hgr6.size
    clear bo9 hm9 hr5 ho5 hgr5 qr
    go_wp2_with fail
    refine (one_lit B (k2 + 1 + 1) g _ [1, 0, 1000000] w5 _ _ _ hr6 (by omega) rfl rfl rfl (by simp) (by simp) (by unfold I64; simp)).mono ?_
    rintro e w6 ⟨y, rfl, hy, hr7, bg6⟩
    have yI : I64 y := by unfold I64; simp only [List.mem_cons, List.not_mem_nil, or_false] at hy; omega
    have ho7 := ho6.kept (Kept.of_grown bg6 (Nat.le_refl _) (.inl (by omega)))
    have Hgr7 := Lib.hid (grown_trans hgr6 bg6)
    have hq9 : q1 < evs.length := by omega
    obtain ⟨g', hg', _, _, hcell, hfr, hset⟩ := ho7.at_ (i := q1) (by rw [hlen]; exact hq9) (by omega)
    simp only [Option.some.injEq, Addr.mk.injEq, and_true] at hg'
    subst hg'
    have p0 := hcell 1 (by omega)
    have f0 := hfr 1
    have Hset := Lib.hid (show OwnT (w6.setCell ⟨g0, q1 * 7 + 1, none⟩ (.int .i64 y)) w.heap.size 40 7 (.slice (some ⟨g0, 0, none⟩) evs.length c5) (evT (evs.set q1 { ve evs q1 with lb := y })) by
      rw [← evT_set hq9 { ve evs q1 with lb := y } 1 y rfl]
      exact hset 1 y (by omega) yI)
    obtain ⟨y0, hy0⟩ : ∃ x, x = gi (gr (evT evs) q1) 1 := ⟨_, rfl⟩
    rw [← hy0] at p0
    have hsz7 : w.heap.size ≤ g0 := hgb
    have hel : (evs.set q1 { ve evs q1 with lb := y }).length = evs.length := by rw [List.length_set]
    have Hel := Lib.hid hel
    clear hcell hfr hset bg6 hy hr6 ho6 ho7 hgr6 hel hy0
    go_wp2
    go_ret
    exact ⟨some ⟨g0, 0, none⟩, evs.length, c5, evs.set q1 { ve evs q1 with lb := y }, rfl, Hel.out.symm, Hset.out.ts, by rw [Hel.out]; exact hl20, grown_setCell Hgr7.out (p := ⟨g0, q1 * 7 + 1, none⟩) hsz7 _, k2 + 1 + 1 + 1, by omega, hr7.set ⟨by show B ≤ g0; omega, by show ¬ g0 = g; omega⟩ _⟩
  have e1 : (q == 1) = false := beq_f hq1
  clear hq1
  by_cases hq2 : q = 2
  · have e2 : (q == 2) = true := beq_t hq2
    clear hq2
    go_wp2_with fail
    refine (pick_any B (k2 + 1) g _ evs.length w4 hr5 (by omega) (by omega)).mono ?_
    rintro e w5 ⟨qi, rfl, hm9, hr6, bo9⟩
    have qr := hm9.2 (by omega)
    obtain ⟨q1, rfl⟩ := Int.eq_ofNat_of_zero_le qr.1
    have hqa : (0 : Int) ≤ (q1 : Int) := by omega
    have hqb : (q1 : Int) < (evs.length : Int) := qr.2
    have ho6 := ho5.kept (bo9.kept (.inr (by omega)))
    have hgr6 := grown_trans hgr5 (grown_only bo9)
    have hz6 : g0 < w5.heap.size := by have := bo9.size; omega
    have hs6 : w.heap.size ≤ w5.heap.size := hgr6.size
    clear bo9 hm9 hr5 ho5 hgr5 qr
    go_wp2_with fail
    refine (one_lit B (k2 + 1 + 1) g _ [-1, 1000000, 3] w5 _ _ _ hr6 (by omega) rfl rfl rfl (by simp) (by simp) (by unfold I64; simp)).mono ?_
    rintro e w6 ⟨y, rfl, hy, hr7, bg6⟩
    have yI : I64 y := by unfold I64; simp only [List.mem_cons, List.not_mem_nil, or_false] at hy; omega
    have ho7 := ho6.kept (Kept.of_grown bg6 (Nat.le_refl _) (.inl (by omega)))
    have Hgr7 := Lib.hid (grown_trans hgr6 bg6)
    have hq9 : q1 < evs.length := by omega
    obtain ⟨g', hg', _, _, hcell, hfr, hset⟩ := ho7.at_ (i := q1) (by rw [hlen]; exact hq9) (by omega)
    simp only [Option.some.injEq, Addr.mk.injEq, and_true] at hg'
    subst hg'
    have p0 := hcell 2 (by omega)
    have f0 := hfr 2
    have Hset := Lib.hid (show OwnT (w6.setCell ⟨g0, q1 * 7 + 2, none⟩ (.int .i64 y)) w.heap.size 40 7 (.slice (some ⟨g0, 0, none⟩) evs.length c5) (evT (evs.set q1 { ve evs q1 with l := y })) by
      rw [← evT_set hq9 { ve evs q1 with l := y } 2 y rfl]
      exact hset 2 y (by omega) yI)
    obtain ⟨y0, hy0⟩ : ∃ x, x = gi (gr (evT evs) q1) 2 := ⟨_, rfl⟩
    rw [← hy0] at p0
    have hsz7 : w.heap.size ≤ g0 := hgb
    have hel : (evs.set q1 { ve evs q1 with l := y }).length = evs.length := by rw [List.length_set]
    have Hel := Lib.hid hel
    clear hcell hfr hset bg6 hy hr6 ho6 ho7 hgr6 hel hy0
    go_wp2
    go_ret
    exact ⟨some ⟨g0, 0, none⟩, evs.length, c5, evs.set q1 { ve evs q1 with l := y }, rfl, Hel.out.symm, Hset.out.ts, by rw [Hel.out]; exact hl20, grown_setCell Hgr7.out (p := ⟨g0, q1 * 7 + 2, none⟩) hsz7 _, k2 + 1 + 1 + 1, by omega, hr7.set ⟨by show B ≤ g0; omega, by show ¬ g0 = g; omega⟩ _⟩
  have e2 : (q == 2) = false := beq_f hq2
  have Hts := Lib.hid ho5.ts
  have Hgr := Lib.hid hgr5
  clear hq2 ho5 hgr5
  go_wp2
  go_ret
  exact ⟨some ⟨g0, 0, none⟩, evs.length, c5, evs, rfl, rfl, Hts.out, hl20, Hgr.out, k2 + 1, by omega, hr5⟩
end Go.Proofs.YtkgepklapglmdaaGreatDoor
