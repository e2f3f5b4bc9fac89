/-
  Lemmas and contracts of single functions of this program, used by the proofs of its laws: what each call returns and what becomes of memory. Conditions: the hypotheses of each theorem.
-/
import Derived.Test.YtodbgkflakfjpaaDrawX
import Derived.Test.YtodbgkflakfjpaaLawQ3
import Derived.Test.YtodbgkflakfjpaaRecC
namespace Go.Proofs.Ytodbgkflakfjpaa
open Go.RowKit
attribute [local go_sem ↓] Go.wp_at_zero Go.wp_at_succ

set_option maxRecDepth 100000 in
set_option maxHeartbeats 8000000 in
theorem FnRecallFromMore_walk (v : Value) (xs : List Int) (w : World) (h : Bytes w 0 w.heap.size v xs) :
    Calls Try.prog 12 #[v] w fun e w' => e = .returned (.bool true) ∧ Below w.heap.size w w' := by
  have hv : ∃ A c, v = .slice A xs.length c ∧ xs.length ≤ c ∧ c ≤ 2 ^ 63 - 1 := by obtain ⟨A, c, e, h1, h2, _⟩ := h; exact ⟨A, c, e, h1, by unfold maxLen at h2; omega⟩
  obtain ⟨A0, c0, rfl, hc0, hm0⟩ := hv
  by_cases hl : 1048576 < xs.length
  · have hl' : (1048576 : Int) < (xs.length : Int) := by omega
    go_enter Try.func12, Try.ntmps12
    go_wp2
    go_ret
    exact ⟨rfl, Below.refl _ _⟩
  · have hl' : ¬ (1048576 : Int) < (xs.length : Int) := by omega
    go_enter Try.func12, Try.ntmps12
    go_wp2_with fail
    refine (DrawRecallFrom_any _ xs w h).mono ?_
    rintro e w1 ⟨W, L, u, z, ds, ps, i, most, rfl, ou, op, hi, hmo, b1⟩
    obtain ⟨A, c, rfl, hc, hm⟩ := ou.form
    obtain ⟨A2, c2, rfl, hc2, hm2⟩ := op.form
    have hs1 := b1.size
    clear h hl hl'
    go_wp2_with fail
    obtain ⟨w2, hw1⟩ : ∃ w2, w2 = w1.alloc (.cells #[.int .i64 W, .int .i64 L, .slice A ds.length c] 30) := ⟨_, rfl⟩
    have x0 : w2.cell? ⟨w1.heap.size, 0, none⟩ = some (.int .i64 W) := by rw [hw1]; go_simp
    have x1 : w2.cell? ⟨w1.heap.size, 1, none⟩ = some (.int .i64 L) := by rw [hw1]; go_simp
    have x2 : w2.cell? ⟨w1.heap.size, 2, none⟩ = some (.slice A ds.length c) := by rw [hw1]; go_simp
    have bx : Below w1.heap.size w1 w2 := by rw [hw1]; exact (Below.refl _ _).alloc (Nat.le_refl _) _
    have zx : w1.heap.size < w2.heap.size := by rw [hw1]; simp
    rw [← hw1]
    clear hw1
    have B2 := b1.trans (bx.mono hs1)
    replace ou := ou.kept (.of_below bx (Nat.le_refl _))
    replace op := op.kept (.of_below bx (Nat.le_refl _))
    clear bx b1
    obtain ⟨R, hR⟩ : ∃ R, R = rcL W L ds ps i most := ⟨_, rfl⟩
    have HR := Lib.hid hR
    clear hR
    refine (RecallFrom_any _ _ _ _ W L _ _ ds ps i most w2 ou.ts (Nat.le_refl _) op.ts (Nat.le_refl _)).mono ?_
    rw [← HR.out]
    rintro e w3 ⟨vo, rfl, oo, b⟩
    have s3 := b.size
    have B3 := B2.trans (b.mono (by omega))
    replace x0 := keepB b x0; replace x1 := keepB b x1; replace x2 := keepB b x2
    replace ou := ou.kept (.of_below b (Nat.le_refl _))
    replace op := op.kept (.of_below b (Nat.le_refl _))
    obtain ⟨A4, c4, rfl, hc4, hm4⟩ := oo.form
    clear b B2
    go_wp2_with fail
    refine (sRecallFrom_any _ _ _ _ W L _ _ ds ps i most w3 ou.ts (Nat.le_refl _) op.ts (Nat.le_refl _)).mono ?_
    rw [← HR.out]
    rintro e w4 ⟨vs, rfl, os, b⟩
    have s4 := b.size
    have B4 := B3.trans (b.mono (by omega))
    replace x0 := keepB b x0; replace x1 := keepB b x1; replace x2 := keepB b x2
    replace ou := ou.kept (.of_below b (Nat.le_refl _))
    replace op := op.kept (.of_below b (Nat.le_refl _))
    replace oo := oo.kept (.of_below b (Nat.le_refl _))
    clear b B3
    go_wp2_with fail
    refine (equalInts_same _ _ _ _ _ _ R w4 oo.ints os.ints).mono ?_
    rintro e w5 ⟨rfl, q⟩
    have b := q.below w4.heap.size
    have s5 := b.size
    have B5 := B4.trans (b.mono (by omega))
    replace x0 := keepB b x0; replace x1 := keepB b x1; replace x2 := keepB b x2
    replace ou := ou.kept (.of_below b (Nat.le_refl _))
    replace op := op.kept (.of_below b (Nat.le_refl _))
    replace oo := oo.kept (.of_below b (Nat.le_refl _))
    clear b q B4 os
    by_cases hgo : R.length ≠ 0 ∧ 0 ≤ most
    · obtain ⟨h0, hm0'⟩ := hgo
      have e0 : ((R.length : Int) == 0) = false := beq_f (by omega)
      have hnm : ¬ most < 0 := by omega
      have H9 := Lib.hid (show rcL W L ds ps i 9 = [i] from by rw [HR.out] at h0; exact rc_nine h0)
      have HM := Lib.hid (show allInL R (rcL W L ds ps i (most - 1)) = true by rw [HR.out]; exact rc_more (by omega))
      clear h0
      have g1 : wrap64 (most - 1) = most - 1 := w64 (by omega)
      go_wp2_with fail
      clear e0
      refine (RecallFrom_any _ _ _ _ W L _ _ ds ps i (most - 1) w5 ou.ts (Nat.le_refl _) op.ts (Nat.le_refl _)).mono ?_
      obtain ⟨Q, hQ⟩ : ∃ Q, Q = rcL W L ds ps i (most - 1) := ⟨_, rfl⟩
      rw [← hQ] at HM ⊢
      clear hQ
      rintro e w6 ⟨vq, rfl, oq, b⟩
      have s6 := b.size
      have B6 := B5.trans (b.mono (by omega))
      replace x0 := keepB b x0; replace x1 := keepB b x1; replace x2 := keepB b x2
      replace ou := ou.kept (.of_below b (Nat.le_refl _))
      replace op := op.kept (.of_below b (Nat.le_refl _))
      replace oo := oo.kept (.of_below b (Nat.le_refl _))
      clear b B5
      go_wp2_with fail
      refine (within_any _ _ _ _ _ _ R Q w6 oo.ints oq.ints).mono ?_
      rw [HM.out]
      rintro e w7 ⟨rfl, rfl⟩
      clear oo oq
      go_wp2_with fail
      refine (RecallFrom_any _ _ _ _ W L _ _ ds ps i 9 w6 ou.ts (Nat.le_refl _) op.ts (Nat.le_refl _)).mono ?_
      rw [H9.out]
      rintro e w8 ⟨v8, rfl, o8, b⟩
      have s8 := b.size
      have B8 := B6.trans (b.mono (by omega))
      obtain ⟨A8, c8, rfl, hc8, hm8⟩ := o8.form
      clear b B6
      go_wp2_with fail
      have oa := lit_own w8 3 [i] (by simp) (fun x hx => by rw [List.mem_singleton.1 hx]; exact ⟨by omega, by omega⟩)
      refine (equalInts_same _ _ _ _ _ _ [i] (w8.alloc (.cells #[.int .i64 i] 3)) (o8.alloc _).ints oa.ints).mono ?_
      rintro e w9 ⟨rfl, q⟩
      go_wp2
      go_ret
      exact ⟨rfl, (B8.alloc (by omega) _).trans ((q.below (w8.alloc (.cells #[.int .i64 i] 3)).heap.size).mono (by simp; omega))⟩
    · have hmm : R.length = 0 ∨ most < 0 := by
        apply Classical.byContradiction
        intro hn
        exact hgo ⟨fun e => hn (.inl e), by omega⟩
      clear hgo
      by_cases h0 : R.length = 0
      · have e0 : ((R.length : Int) == 0) = true := beq_t (by omega)
        clear h0 hmm
        go_wp2_with fail
        refine (sRecallFrom_any _ _ _ _ W L _ _ ds ps i most w5 ou.ts (Nat.le_refl _) op.ts (Nat.le_refl _)).mono ?_
        rw [← HR.out]
        rintro e w6 ⟨vs2, rfl, os2, b⟩
        have s6 := b.size
        have B6 := B5.trans (b.mono (by omega))
        replace oo := oo.kept (.of_below b (Nat.le_refl _))
        go_wp2_with fail
        refine (equalInts_same _ _ _ _ _ _ R w6 oo.ints os2.ints).mono ?_
        rintro e w7 ⟨rfl, q⟩
        go_wp2
        go_ret
        exact ⟨rfl, B6.trans ((q.below w6.heap.size).mono (by omega))⟩
      · have e0 : ((R.length : Int) == 0) = false := beq_f (by omega)
        have hneg : most < 0 := by omega
        clear h0 hmm
        go_wp2_with fail
        refine (sRecallFrom_any _ _ _ _ W L _ _ ds ps i most w5 ou.ts (Nat.le_refl _) op.ts (Nat.le_refl _)).mono ?_
        rw [← HR.out]
        rintro e w6 ⟨vs2, rfl, os2, b⟩
        have s6 := b.size
        have B6 := B5.trans (b.mono (by omega))
        replace oo := oo.kept (.of_below b (Nat.le_refl _))
        go_wp2_with fail
        refine (equalInts_same _ _ _ _ _ _ R w6 oo.ints os2.ints).mono ?_
        rintro e w7 ⟨rfl, q⟩
        go_wp2
        go_ret
        exact ⟨rfl, B6.trans ((q.below w6.heap.size).mono (by omega))⟩
end Go.Proofs.Ytodbgkflakfjpaa
