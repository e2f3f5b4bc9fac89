/-
  Lemmas and contracts of single functions of this program, used by the proofs of its laws: what each call returns and what becomes of memory. Conditions: the hypotheses of each theorem.
-/
import Derived.Test.YtkgepklapglmdaaGreatDoorLawR3
import Derived.Test.YtkgepklapglmdaaGreatDoorMlK
namespace Go.Proofs.YtkgepklapglmdaaGreatDoor
open Go.RowKit
attribute [local go_sem ↓] Go.wp_at_zero Go.wp_at_succ

def DcPost (w : World) (e : Ending) (w' : World) : Prop := ∃ (A : Option Addr) (n c : Nat) (es : List Ent) (a b z lb : Int) (u2 u3 : Value) (ws xs : List Int), e = .returned (.tuple #[.agg #[.slice A n c, .int .i64 a, .int .i64 b, .int .i64 z], .int .i64 lb, u2, u3]) ∧ n = es.length ∧ ES w' w.heap.size w'.heap.size (.slice A n c) es ∧ ((-1 ≤ a ∧ a ≤ 900001) ∧ (-1 ≤ b ∧ b ≤ 900001) ∧ (-1 ≤ z ∧ z ≤ 900001)) ∧ I64 lb ∧ Ints w' w.heap.size w'.heap.size u2 ws ∧ Ints w' w.heap.size w'.heap.size u3 xs ∧ Below w.heap.size w w'
set_option maxRecDepth 100000 in
set_option maxHeartbeats 8000000 in
theorem DrawPlanCuts_any (v : Value) (bs : List Int) (w : World) (h : Bytes w 0 w.heap.size v bs) :
    Calls Tryz.prog 7 #[v] w fun e w' => DcPost w e w' := by
  have hb1 : ∀ w1, Below w.heap.size w w1 → Bytes w1 0 w.heap.size v bs := fun w1 hb => h.kept (.of_below hb (Nat.le_refl _))
  have hv : ∃ A n c, v = .slice A n c := by obtain ⟨A, c, e, _⟩ := h; exact ⟨A, _, c, e⟩
  obtain ⟨A0, n0, c0, rfl⟩ := hv
  have Hs := Lib.hid (show ∃ w1, w1 = (w.alloc (.cells #[.slice none 0 0, .int .i64 0, .int .i64 0, .int .i64 0] 25)) ∧ Below w.heap.size w w1 ∧ w1.cell? ⟨w.heap.size, 0, none⟩ = some (.slice none 0 0) ∧ w1.cell? ⟨w.heap.size, 1, none⟩ = some (.int .i64 0) ∧ w1.cell? ⟨w.heap.size, 2, none⟩ = some (.int .i64 0) ∧ w1.cell? ⟨w.heap.size, 3, none⟩ = some (.int .i64 0) ∧ w1.frozen? ⟨w.heap.size, 0, none⟩ = false ∧ w1.frozen? ⟨w.heap.size, 1, none⟩ = false ∧ w1.frozen? ⟨w.heap.size, 2, none⟩ = false ∧ w1.frozen? ⟨w.heap.size, 3, none⟩ = false ∧ w.heap.size < w1.heap.size from by
    have hb : Below w.heap.size w (w.alloc (.cells #[.slice none 0 0, .int .i64 0, .int .i64 0, .int .i64 0] 25)) := (Below.refl _ _).alloc (Nat.le_refl _) _
    exact ⟨_, rfl, hb, by go_simp, by go_simp, by go_simp, by go_simp, by go_simp, by go_simp, by go_simp, by go_simp, by simp⟩)
  go_enter Tryz.func7, Tryz.ntmps7
  go_wp2_with fail
  obtain ⟨w1, hw1, hb0, c00, c01, c02, c03, f00, f01, f02, f03, hz⟩ := Hs.out
  have HZ := Lib.hid (show w1.heap.size = w.heap.size + 1 by rw [hw1]; simp)
  rw [← hw1]
  clear hw1 Hs
  have hby := hb1 w1 hb0
  clear hb1 h
  refine (newReader_any _ bs w1 (Bytes.wide hby (Nat.le_refl _) (by omega))).mono ?_
  rintro e w2 ⟨rv, rfl, hr2, bx⟩
  replace c00 := keepB bx c00; replace c01 := keepB bx c01; replace c02 := keepB bx c02; replace c03 := keepB bx c03
  replace f00 := keepF bx (by first | (simp; done) | (simp; omega)) f00; replace f01 := keepF bx (by first | (simp; done) | (simp; omega)) f01; replace f02 := keepF bx (by first | (simp; done) | (simp; omega)) f02; replace f03 := keepF bx (by first | (simp; done) | (simp; omega)) f03
  have hb2 := hb0.trans (bx.mono (by omega))
  have hz2 := hr2.lt
  have hlt1 : w.heap.size < w1.heap.size := hz
  have hne1 : ¬ w.heap.size = w1.heap.size := by omega
  have hne1' : ¬ w1.heap.size = w.heap.size := by omega
  clear hby bx hb0 HZ hz
  go_wp2_with fail
  refine (anyMill_any _ _ _ _ w2 hr2 (by omega)).mono ?_
  rintro e w3 ⟨u, es, a, b, z, k3, rfl, hes, hbd, hl12, hve, hk3, hr3, bg⟩
  obtain ⟨A, c, rfl, hc, hm⟩ := hes.form
  replace c00 := keepW bg (by first | (simp; done) | (simp; omega)) c00; replace c01 := keepW bg (by first | (simp; done) | (simp; omega)) c01; replace c02 := keepW bg (by first | (simp; done) | (simp; omega)) c02; replace c03 := keepW bg (by first | (simp; done) | (simp; omega)) c03
  replace f00 := keepWF bg (by first | (simp; done) | (simp; omega)) f00; replace f01 := keepWF bg (by first | (simp; done) | (simp; omega)) f01; replace f02 := keepWF bg (by first | (simp; done) | (simp; omega)) f02; replace f03 := keepWF bg (by first | (simp; done) | (simp; omega)) f03
  have HB3 := Lib.hid (hb2.trans (below_of_grown bg (B := w.heap.size) (by omega) (by omega)))
  have hz3 : w2.heap.size ≤ w3.heap.size := bg.size
  have HBD := Lib.hid hbd
  clear bg hr2 hb2 hve hbd
  go_wp2_with fail
  obtain ⟨w4, hw1⟩ : ∃ w4, w4 = w3.alloc (.cells #[.slice A es.length c, .int .i64 a, .int .i64 b, .int .i64 z] 25) := ⟨_, rfl⟩
  have x0 : w4.cell? ⟨w3.heap.size, 0, none⟩ = some (.slice A es.length c) := by rw [hw1]; go_simp
  have x1 : w4.cell? ⟨w3.heap.size, 1, none⟩ = some (.int .i64 a) := by rw [hw1]; go_simp
  have x2 : w4.cell? ⟨w3.heap.size, 2, none⟩ = some (.int .i64 b) := by rw [hw1]; go_simp
  have x3 : w4.cell? ⟨w3.heap.size, 3, none⟩ = some (.int .i64 z) := by rw [hw1]; go_simp
  have bx : Below w3.heap.size w3 w4 := by rw [hw1]; exact (Below.refl _ _).alloc (Nat.le_refl _) _
  have zx : w3.heap.size < w4.heap.size := by rw [hw1]; simp
  have HZx := Lib.hid (show w4.heap.size = w3.heap.size + 1 by rw [hw1]; simp)
  have fx0 : w4.frozen? ⟨w3.heap.size, 0, none⟩ = false := by rw [hw1]; go_simp
  have fx1 : w4.frozen? ⟨w3.heap.size, 1, none⟩ = false := by rw [hw1]; go_simp
  have fx2 : w4.frozen? ⟨w3.heap.size, 2, none⟩ = false := by rw [hw1]; go_simp
  have fx3 : w4.frozen? ⟨w3.heap.size, 3, none⟩ = false := by rw [hw1]; go_simp
  have Hx := Lib.hid (show w4.heap[w3.heap.size]? = some (.cells #[.slice A es.length c, .int .i64 a, .int .i64 b, .int .i64 z] 25) by rw [hw1]; exact heap_alloc_new w3 _)
  rw [← hw1]
  clear hw1
  have hr4 := hr3.below bx
  have he4 := Lib.hid (hes.below bx (Nat.le_refl _))
  have HB4 := Lib.hid (HB3.out.trans (bx.mono (by omega)))
  replace c00 := keepB bx c00; replace c01 := keepB bx c01; replace c02 := keepB bx c02; replace c03 := keepB bx c03
  replace f00 := keepF bx (by first | (simp; done) | (simp; omega)) f00; replace f01 := keepF bx (by first | (simp; done) | (simp; omega)) f01; replace f02 := keepF bx (by first | (simp; done) | (simp; omega)) f02; replace f03 := keepF bx (by first | (simp; done) | (simp; omega)) f03
  obtain ⟨X, hX⟩ : ∃ X, X = w3.heap.size := ⟨_, rfl⟩
  have HZ41 := Lib.hid (show X + 1 = w4.heap.size by rw [hX]; exact HZx.out.symm)
  rw [← hX] at x0 x1 x2 x3 fx0 fx1 fx2 fx3 zx he4 hz3
  rw [← hX]
  have hXw : ¬ X = w1.heap.size := by omega
  have hXw' : ¬ w1.heap.size = X := by omega
  have hPX : ¬ w.heap.size = X := by omega
  have hPX2 : ¬ X = w.heap.size := by omega
  clear bx hr3 hes HB3 Hx HZx hX fx0 fx1 fx2 fx3
  refine (one_lit _ _ _ _ [1, 7, 0] w4 _ _ (X + 1) hr4 (by omega) rfl rfl HZ41.out (by simp) (by simp) (by unfold I64; simp)).mono ?_
  rintro e w5 ⟨lb0, rfl, hlb0, hr5, bg⟩
  replace c00 := keepW bg (by first | (simp; done) | (simp; omega)) c00; replace c01 := keepW bg (by first | (simp; done) | (simp; omega)) c01; replace c02 := keepW bg (by first | (simp; done) | (simp; omega)) c02; replace c03 := keepW bg (by first | (simp; done) | (simp; omega)) c03; replace x0 := keepW bg (by first | (simp; done) | (simp; omega)) x0; replace x1 := keepW bg (by first | (simp; done) | (simp; omega)) x1; replace x2 := keepW bg (by first | (simp; done) | (simp; omega)) x2; replace x3 := keepW bg (by first | (simp; done) | (simp; omega)) x3
  replace f00 := keepWF bg (by first | (simp; done) | (simp; omega)) f00; replace f01 := keepWF bg (by first | (simp; done) | (simp; omega)) f01; replace f02 := keepWF bg (by first | (simp; done) | (simp; omega)) f02; replace f03 := keepWF bg (by first | (simp; done) | (simp; omega)) f03
  have he5 := Lib.hid (he4.out.kept (Kept.of_grown bg (by omega) (.inl (by omega))))
  have HB5 := Lib.hid (HB4.out.trans (below_of_grown bg (B := w.heap.size) (by omega) (by omega)))
  have hz5 : w4.heap.size ≤ w5.heap.size := bg.size
  have HI0 := Lib.hid (show I64 lb0 by simp only [List.mem_cons, List.not_mem_nil, or_false] at hlb0; exact ⟨by omega, by omega⟩)
  have HR5 := Lib.hid hr5
  have HG5 := Lib.hid (grown_below (Below.refl w5.heap.size w5) (some w1.heap.size))
  clear bg hr4 hr5 hlb0 HB4 HZ41
  go_wp2
  go_loopw [8, 9] (fun lv i wr => ∃ (j k' : Nat) (lb : Int), j ≤ es.length ∧ i = .int .i64 (j : Int) ∧ lv = .int .i64 lb ∧ Hid (I64 lb) ∧ k' ≤ k3 + 1 + j ∧ Hid (Rdr wr w1.heap.size k' w1.heap.size rv) ∧ Hid (w5.grownBy wr (some w1.heap.size))) (fun _ i _ => es.length - (intOf i).toNat)
  case atStart => exact ⟨0, k3 + 1, lb0, Nat.zero_le _, rfl, rfl, HI0.out, by omega, HR5.out, HG5.out⟩
  case round =>
    obtain ⟨j, k1, lb, hj, rfl, rfl, HI, hk1, HR, HG⟩ := hrel
    obtain ⟨wo, rfl⟩ : ∃ wo : World, wo = wr := ⟨_, rfl⟩
    clear HI0 HR5 HG5
    have hzo : w5.heap.size ≤ wo.heap.size := HG.out.size
    have bgo := HG.out
    replace c00 := keepW bgo (by first | (simp; done) | (simp; omega)) c00; replace c01 := keepW bgo (by first | (simp; done) | (simp; omega)) c01; replace c02 := keepW bgo (by first | (simp; done) | (simp; omega)) c02; replace c03 := keepW bgo (by first | (simp; done) | (simp; omega)) c03; replace x0 := keepW bgo (by first | (simp; done) | (simp; omega)) x0; replace x1 := keepW bgo (by first | (simp; done) | (simp; omega)) x1; replace x2 := keepW bgo (by first | (simp; done) | (simp; omega)) x2; replace x3 := keepW bgo (by first | (simp; done) | (simp; omega)) x3
    replace f00 := keepWF bgo (by first | (simp; done) | (simp; omega)) f00; replace f01 := keepWF bgo (by first | (simp; done) | (simp; omega)) f01; replace f02 := keepWF bgo (by first | (simp; done) | (simp; omega)) f02; replace f03 := keepWF bgo (by first | (simp; done) | (simp; omega)) f03
    have heo := Lib.hid (he5.out.kept (Kept.of_grown HG.out (by omega) (.inl (by omega))))
    clear bgo
    by_cases hlt : j < es.length
    · have j0 : (0 : Int) ≤ (j : Int) := by omega
      have j1 : (j : Int) < (es.length : Int) := by omega
      have gj : IntKind.i64.wrap ((j : Int) + 1) = ((j + 1 : Nat) : Int) := IntWalk.i64_in _ (by omega)
      obtain ⟨b9, o9, Ad, cd, Ap, cp, hA, hb91, hb92, g0, g1, g2, g3, g4, _⟩ := heo.out.cell hlt
      subst hA
      obtain ⟨y, hy⟩ : ∃ y, y = (ge es j).lb := ⟨_, rfl⟩
      obtain ⟨p, hp⟩ : ∃ p, p = (ge es j).ps.length := ⟨_, rfl⟩
      rw [← hy] at g0
      rw [← hp] at g4
      have HY := Lib.hid (show I64 y by rw [hy]; obtain ⟨_, _, _, _, _, _, _, h5⟩ := heo.out; exact (h5 j hlt).1.1)
      clear hy hp
      by_cases hp0 : p = 0
      · have e0 : ((p : Int) == 0) = true := beq_t (by omega)
        subst hp0
        go_wp2
        go_roundw
        case rel => exact ⟨j + 1, k1, y, hlt, by go_num, rfl, HY.out, by omega, HR.out, HG.out⟩
        case measure => simp [intOf]; omega
      have e0 : ((p : Int) == 0) = false := beq_f (by omega)
      go_wp2_with fail
      refine (pick_any _ k1 _ _ 8 wo HR.out (by omega) (by omega)).mono ?_
      rintro e w6 ⟨q, rfl, hq, hr6, bo⟩
      have bg6 := grown_only bo
      have HR6 := Lib.hid hr6
      have HG6 := Lib.hid (grown_trans HG.out bg6)
      have hb9w : ¬ b9 = w1.heap.size := by omega
      have hb9z : b9 < wo.heap.size := by omega
      replace c00 := keepW bg6 (by first | (simp; done) | (simp; omega)) c00; replace c01 := keepW bg6 (by first | (simp; done) | (simp; omega)) c01; replace c02 := keepW bg6 (by first | (simp; done) | (simp; omega)) c02; replace c03 := keepW bg6 (by first | (simp; done) | (simp; omega)) c03; replace x0 := keepW bg6 (by first | (simp; done) | (simp; omega)) x0; replace x1 := keepW bg6 (by first | (simp; done) | (simp; omega)) x1; replace x2 := keepW bg6 (by first | (simp; done) | (simp; omega)) x2; replace x3 := keepW bg6 (by first | (simp; done) | (simp; omega)) x3; replace g0 := keepW bg6 (by first | (simp; done) | (simp; omega)) g0; replace g1 := keepW bg6 (by first | (simp; done) | (simp; omega)) g1; replace g2 := keepW bg6 (by first | (simp; done) | (simp; omega)) g2; replace g3 := keepW bg6 (by first | (simp; done) | (simp; omega)) g3; replace g4 := keepW bg6 (by first | (simp; done) | (simp; omega)) g4
      clear bo bg6 hr6 hq HR HG
      by_cases hq0 : q = 0
      · have e1 : (q == 0) = true := beq_t hq0
        clear hq0
        go_wp2
        go_roundw
        case rel => exact ⟨j + 1, k1 + 1, y, hlt, by go_num, rfl, HY.out, by omega, HR6.out, HG6.out⟩
        case measure => simp [intOf]; omega
      · have e1 : (q == 0) = false := beq_f hq0
        clear hq0
        go_wp2
        go_roundw
        case rel => exact ⟨j + 1, k1 + 1, lb, hlt, by go_num, rfl, HI.out, by omega, HR6.out, HG6.out⟩
        case measure => simp [intOf]; omega
    have hnj : ¬ (j : Int) < (es.length : Int) := by omega
    have hk9 : k1 ≤ 400 := by omega
    obtain ⟨w6, hw6⟩ : ∃ w6, w6 = wo.alloc (.cells #[.int .i64 3, .int .i64 2, .int .i64 5] 3) := ⟨_, rfl⟩
    have b6 : Below wo.heap.size wo w6 := by rw [hw6]; exact (Below.refl _ _).alloc (Nat.le_refl _) _
    have HO6 := Lib.hid (show OwnI w6 wo.heap.size 3 (.slice (some ⟨wo.heap.size, 0, none⟩) 3 3) [3, 2, 5] by rw [hw6]; exact lit_own wo 3 [3, 2, 5] (by simp) (by unfold I64; simp))
    have HR6 := Lib.hid (HR.out.below b6)
    have HG6 := Lib.hid (grown_trans HG.out (grown_below b6 (some w1.heap.size)))
    have hz6 : wo.heap.size ≤ w6.heap.size := b6.size
    have HW6 := Lib.hid hw6
    have he6 := Lib.hid (heo.out.below b6 (by omega))
    have HBB6 := Lib.hid b6
    clear hw6 b6 HR HG heo
    go_wp2_with fail
    rw [← HW6.out]
    have b6 := HBB6.out
    replace c00 := keepB b6 c00; replace c01 := keepB b6 c01; replace c02 := keepB b6 c02; replace c03 := keepB b6 c03; replace x0 := keepB b6 x0; replace x1 := keepB b6 x1; replace x2 := keepB b6 x2; replace x3 := keepB b6 x3
    replace f00 := keepF b6 (by first | (simp; done) | (simp; omega)) f00; replace f01 := keepF b6 (by first | (simp; done) | (simp; omega)) f01; replace f02 := keepF b6 (by first | (simp; done) | (simp; omega)) f02; replace f03 := keepF b6 (by first | (simp; done) | (simp; omega)) f03
    clear b6
    refine (pick_any _ k1 _ _ 4 w6 HR6.out (by omega) (by omega)).mono ?_
    rintro e w7 ⟨q, rfl, hq, hr7, bo⟩
    have bg7 := grown_only bo
    have HR7 := Lib.hid hr7
    have HG7 := Lib.hid (grown_trans HG6.out bg7)
    have hz7 : w6.heap.size ≤ w7.heap.size := bg7.size
    have HO7 := Lib.hid (HO6.out.grownK bg7 (by omega))
    have he7 := Lib.hid (he6.out.kept (Kept.of_grown bg7 (by omega) (.inl (by omega))))
    replace c00 := keepW bg7 (by first | (simp; done) | (simp; omega)) c00; replace c01 := keepW bg7 (by first | (simp; done) | (simp; omega)) c01; replace c02 := keepW bg7 (by first | (simp; done) | (simp; omega)) c02; replace c03 := keepW bg7 (by first | (simp; done) | (simp; omega)) c03; replace x0 := keepW bg7 (by first | (simp; done) | (simp; omega)) x0; replace x1 := keepW bg7 (by first | (simp; done) | (simp; omega)) x1; replace x2 := keepW bg7 (by first | (simp; done) | (simp; omega)) x2; replace x3 := keepW bg7 (by first | (simp; done) | (simp; omega)) x3
    replace f00 := keepWF bg7 (by first | (simp; done) | (simp; omega)) f00; replace f01 := keepWF bg7 (by first | (simp; done) | (simp; omega)) f01; replace f02 := keepWF bg7 (by first | (simp; done) | (simp; omega)) f02; replace f03 := keepWF bg7 (by first | (simp; done) | (simp; omega)) f03
    clear bo bg7 hr7 hq HR6 HG6 HO6 he6 HW6
    by_cases hq0 : q = 0
    · have e1 : (q == 0) = true := beq_t hq0
      clear hq0
      go_wp2_with fail
      refine (anyWidths_any _ (k1 + 1) _ _ w7 HR7.out (by omega)).mono ?_
      rintro e w8 ⟨p8, u8, ws, k8, rfl, hp8, ow8, hl8, hr8, hk8, bg8⟩
      obtain ⟨A8, c8, rfl, hc8, hm8⟩ := ow8.form
      have HR8 := Lib.hid hr8
      have HG8 := Lib.hid (grown_trans HG7.out bg8)
      have HO8 := Lib.hid ow8
      have hz8 : w7.heap.size ≤ w8.heap.size := bg8.size
      have he8 := Lib.hid (he7.out.kept (Kept.of_grown bg8 (by omega) (.inl (by omega))))
      replace c00 := keepW bg8 (by first | (simp; done) | (simp; omega)) c00; replace c01 := keepW bg8 (by first | (simp; done) | (simp; omega)) c01; replace c02 := keepW bg8 (by first | (simp; done) | (simp; omega)) c02; replace c03 := keepW bg8 (by first | (simp; done) | (simp; omega)) c03; replace x0 := keepW bg8 (by first | (simp; done) | (simp; omega)) x0; replace x1 := keepW bg8 (by first | (simp; done) | (simp; omega)) x1; replace x2 := keepW bg8 (by first | (simp; done) | (simp; omega)) x2; replace x3 := keepW bg8 (by first | (simp; done) | (simp; omega)) x3
      replace f00 := keepWF bg8 (by first | (simp; done) | (simp; omega)) f00; replace f01 := keepWF bg8 (by first | (simp; done) | (simp; omega)) f01; replace f02 := keepWF bg8 (by first | (simp; done) | (simp; omega)) f02; replace f03 := keepWF bg8 (by first | (simp; done) | (simp; omega)) f03
      clear bg8 hr8 ow8 HR7 HG7 HO7 he7
      go_wp2
      refine wp_region_held_drew (S := fun w' => w'.cell? ⟨X, 0, none⟩ = some (.slice A es.length c) ∧ w'.cell? ⟨X, 1, none⟩ = some (.int .i64 a) ∧ w'.cell? ⟨X, 2, none⟩ = some (.int .i64 b) ∧ w'.cell? ⟨X, 3, none⟩ = some (.int .i64 z)) (by kernel_rfl) ?_ (fun hHeld => ?_)
      · (first | (try dsimp only); go_keep | (go_split_ands; refine ⟨?_, ?_, ?_, ?_⟩ <;> first | assumption))
      refine tkW 0 53 rfl rfl (by kernel_rfl) hHeld (by intro w hSw; (try dsimp only at hSw); go_simp; try with_reducible rfl) ?_ (fun _ _ _ h => h)
      simp only [Act.put, lyA, lyB, lyC]
      refine tkW 1 54 rfl rfl (by kernel_rfl) hHeld (by intro w hSw; (try dsimp only at hSw); go_simp; try with_reducible rfl) ?_ (fun _ _ _ h => h)
      simp only [Act.put, lyA, lyB, lyC]
      refine tkW 2 55 rfl rfl (by kernel_rfl) hHeld (by intro w hSw; (try dsimp only at hSw); go_simp; try with_reducible rfl) ?_ (fun _ _ _ h => h)
      simp only [Act.put, lyA, lyB, lyC]
      refine tkW 3 56 rfl rfl (by kernel_rfl) hHeld (by intro w hSw; (try dsimp only at hSw); go_simp; try with_reducible rfl) ?_ (fun _ _ _ h => h)
      simp only [Act.put, lyA, lyB, lyC]
      refine tkW 4 57 rfl rfl (by kernel_rfl) hHeld (by intro w hSw; (try dsimp only at hSw); go_simp; try with_reducible rfl) ?_ (fun _ _ _ h => h)
      simp only [Act.put, lyA, lyB, lyC]
      refine wpAnyH_ready (rs := [5]) (by kernel_rfl) (by simp) ?_
      refine AllReadyH.cons (o := ⟨some 58, _, _, _, _, _⟩) rfl (fun K hK => ?_) AllReadyH.nil
      go_simp
      go_at_call 28
      refine (someWants_any _ k8 _ ws.length c8 rv A8 12 w8.drew (HR8.out.kept rfl (fun _ _ _ => rfl)) (by omega) (by omega) (by omega)).mono ?_
      rintro e xw ⟨u9, xs9, k9, rfl, ox9, hr9, hk9, bg9⟩
      have bg8 := grown_drew bg9
      replace c00 := keepW bg8 (by first | (simp; done) | (simp; omega)) c00; replace c01 := keepW bg8 (by first | (simp; done) | (simp; omega)) c01; replace c02 := keepW bg8 (by first | (simp; done) | (simp; omega)) c02; replace c03 := keepW bg8 (by first | (simp; done) | (simp; omega)) c03; replace x0 := keepW bg8 (by first | (simp; done) | (simp; omega)) x0; replace x1 := keepW bg8 (by first | (simp; done) | (simp; omega)) x1; replace x2 := keepW bg8 (by first | (simp; done) | (simp; omega)) x2; replace x3 := keepW bg8 (by first | (simp; done) | (simp; omega)) x3
      replace f00 := keepWF bg8 (by first | (simp; done) | (simp; omega)) f00; replace f01 := keepWF bg8 (by first | (simp; done) | (simp; omega)) f01; replace f02 := keepWF bg8 (by first | (simp; done) | (simp; omega)) f02; replace f03 := keepWF bg8 (by first | (simp; done) | (simp; omega)) f03
      have HX9 := Lib.hid ox9
      obtain ⟨A9, c9, rfl, hc9, hm9⟩ := ox9.form
      go_wp2_with fail
      refine hK.out _ _ ?_ (fun hHeld2 => ?_)
      · (first | (try dsimp only); go_keep | (go_split_ands; refine ⟨?_, ?_, ?_, ?_⟩ <;> first | assumption))
      clear hK K hHeld
      have hHeld := hHeld2
      clear hHeld2
      try simp only [Act.put, lyA, lyB, lyC]
      refine wpAnyH_ready (rs := [6]) (by kernel_rfl) (by simp) ?_
      refine AllReadyH.cons (o := ⟨none, _, _, _, _, _⟩) rfl (fun K hK => ?_) AllReadyH.nil
      go_simp
      refine hK.out _ _ ?_ (fun hHeld2 => ?_)
      · (first | (try dsimp only); go_keep | (go_split_ands; refine ⟨?_, ?_, ?_, ?_⟩ <;> first | assumption))
      clear hK K hHeld
      have hHeld := hHeld2
      clear hHeld2
      try simp only [Act.put, lyA, lyB, lyC]
      refine tkW 7 3 rfl rfl (by kernel_rfl) hHeld (by intro w hSw; (try dsimp only at hSw); go_simp; try with_reducible rfl) ?_ (fun _ _ _ h => h)
      simp only [Act.put, lyA, lyB, lyC]
      refine tkW 8 4 rfl rfl (by kernel_rfl) hHeld (by intro w hSw; (try dsimp only at hSw); go_simp; try with_reducible rfl) ?_ (fun _ _ _ h => h)
      simp only [Act.put, lyA, lyB, lyC]
      refine tkW 9 5 rfl rfl (by kernel_rfl) hHeld (by intro w hSw; (try dsimp only at hSw); go_simp; try with_reducible rfl) ?_ (fun _ _ _ h => h)
      simp only [Act.put, lyA, lyB, lyC]
      refine wpAnyH_done (by kernel_rfl) ?_ _
      focus
        obtain ⟨wq, hwq⟩ : ∃ wq, wq = ((((xw.setCell ⟨w.heap.size, 0, none⟩ (.slice A es.length c)).setCell ⟨w.heap.size, 1, none⟩ (.int .i64 a)).setCell ⟨w.heap.size, 2, none⟩ (.int .i64 b)).setCell ⟨w.heap.size, 3, none⟩ (.int .i64 z)) := ⟨_, rfl⟩
        have HBw := Lib.hid (HB5.out.trans (below_of_grown (grown_trans HG8.out bg8) (B := w.heap.size) (by omega) (by omega)))
        have Hbq := Lib.hid (show Below w.heap.size w wq by rw [hwq]; exact ((((HBw.out.setCell (p := ⟨w.heap.size, 0, none⟩) (Nat.le_refl _) _).setCell (p := ⟨w.heap.size, 1, none⟩) (Nat.le_refl _) _).setCell (p := ⟨w.heap.size, 2, none⟩) (Nat.le_refl _) _).setCell (p := ⟨w.heap.size, 3, none⟩) (Nat.le_refl _) _))
        have hzq : wq.heap.size = xw.heap.size := by rw [hwq]; simp [World.setCell]
        have hzx : w8.heap.size ≤ xw.heap.size := bg8.size
        have hfar : ∀ q, w.heap.size < q → wq.heap[q]? = xw.heap[q]? := fun q hq => by rw [hwq]; simp only [World.setCell, Array.getElem?_modify, if_neg (show ¬ w.heap.size = q by omega)]
        have Heq := Lib.hid (show ES wq w.heap.size wq.heap.size (.slice A es.length c) es from ((he8.out.kept (Kept.of_grown bg8 (by omega) (.inl (by omega)))).kept (w' := wq) fun q hq _ => hfar q (by omega)).wide (by omega) (by omega))
        have Hwq9 := Lib.hid (show Ints wq w.heap.size wq.heap.size (.slice A8 ws.length c8) ws from ((HO8.out.grownK bg8 (by omega)).kept (w' := wq) fun q hq _ => hfar q (by omega)).ints.wide (by omega) (by omega))
        have Hxq9 := Lib.hid (show Ints wq w.heap.size wq.heap.size (.slice A9 xs9.length c9) xs9 from (HX9.out.kept (w' := wq) fun q hq _ => hfar q (by have h8 : w8.heap.size ≤ q := hq; omega)).ints.wide (by show w.heap.size ≤ w8.heap.size; omega) (by omega))
        have Hwq := Lib.hid hwq
        clear hwq hzq hfar hzx bg9 bg8 hr9 HX9
        go_wp2
        refine bodyPost_ret (v := .tuple #[.agg #[.slice A es.length c, .int .i64 a, .int .i64 b, .int .i64 z], .int .i64 lb, .slice A8 ws.length c8, .slice A9 xs9.length c9]) (by simp [results, Tryz.results7, go_sem, *]) rfl ?_
        refine ⟨A, es.length, c, es, a, b, z, lb, _, _, ws, xs9, rfl, rfl, ?_, HBD.out, HI.out, ?_, ?_, ?_⟩
        · rw [← Hwq.out]; exact Heq.out.kept fun _ _ _ => rfl
        · rw [← Hwq.out]; exact Hwq9.out
        · rw [← Hwq.out]; exact Hxq9.out
        · rw [← Hwq.out]; exact Hbq.out
    · have e1 : (q == 0) = false := beq_f hq0
      clear hq0
      go_wp2
      refine wp_region_held_drew (S := fun w' => w'.cell? ⟨X, 0, none⟩ = some (.slice A es.length c) ∧ w'.cell? ⟨X, 1, none⟩ = some (.int .i64 a) ∧ w'.cell? ⟨X, 2, none⟩ = some (.int .i64 b) ∧ w'.cell? ⟨X, 3, none⟩ = some (.int .i64 z)) (by kernel_rfl) ?_ (fun hHeld => ?_)
      · (first | (try dsimp only); go_keep | (go_split_ands; refine ⟨?_, ?_, ?_, ?_⟩ <;> first | assumption))
      refine tkW 0 53 rfl rfl (by kernel_rfl) hHeld (by intro w hSw; (try dsimp only at hSw); go_simp; try with_reducible rfl) ?_ (fun _ _ _ h => h)
      simp only [Act.put, lyA, lyB, lyC]
      refine tkW 1 54 rfl rfl (by kernel_rfl) hHeld (by intro w hSw; (try dsimp only at hSw); go_simp; try with_reducible rfl) ?_ (fun _ _ _ h => h)
      simp only [Act.put, lyA, lyB, lyC]
      refine tkW 2 55 rfl rfl (by kernel_rfl) hHeld (by intro w hSw; (try dsimp only at hSw); go_simp; try with_reducible rfl) ?_ (fun _ _ _ h => h)
      simp only [Act.put, lyA, lyB, lyC]
      refine tkW 3 56 rfl rfl (by kernel_rfl) hHeld (by intro w hSw; (try dsimp only at hSw); go_simp; try with_reducible rfl) ?_ (fun _ _ _ h => h)
      simp only [Act.put, lyA, lyB, lyC]
      refine tkW 4 57 rfl rfl (by kernel_rfl) hHeld (by intro w hSw; (try dsimp only at hSw); go_simp; try with_reducible rfl) ?_ (fun _ _ _ h => h)
      simp only [Act.put, lyA, lyB, lyC]
      refine wpAnyH_ready (rs := [5]) (by kernel_rfl) (by simp) ?_
      refine AllReadyH.cons (o := ⟨some 58, _, _, _, _, _⟩) rfl (fun K hK => ?_) AllReadyH.nil
      go_simp
      go_at_call 28
      refine (someWants_any _ (k1 + 1) _ 3 3 rv (some ⟨wo.heap.size, 0, none⟩) 12 w7.drew (HR7.out.kept rfl (fun _ _ _ => rfl)) (by omega) (by omega) (by omega)).mono ?_
      rintro e xw ⟨u9, xs9, k9, rfl, ox9, hr9, hk9, bg9⟩
      have bg8 := grown_drew bg9
      replace c00 := keepW bg8 (by first | (simp; done) | (simp; omega)) c00; replace c01 := keepW bg8 (by first | (simp; done) | (simp; omega)) c01; replace c02 := keepW bg8 (by first | (simp; done) | (simp; omega)) c02; replace c03 := keepW bg8 (by first | (simp; done) | (simp; omega)) c03; replace x0 := keepW bg8 (by first | (simp; done) | (simp; omega)) x0; replace x1 := keepW bg8 (by first | (simp; done) | (simp; omega)) x1; replace x2 := keepW bg8 (by first | (simp; done) | (simp; omega)) x2; replace x3 := keepW bg8 (by first | (simp; done) | (simp; omega)) x3
      replace f00 := keepWF bg8 (by first | (simp; done) | (simp; omega)) f00; replace f01 := keepWF bg8 (by first | (simp; done) | (simp; omega)) f01; replace f02 := keepWF bg8 (by first | (simp; done) | (simp; omega)) f02; replace f03 := keepWF bg8 (by first | (simp; done) | (simp; omega)) f03
      have HX9 := Lib.hid ox9
      obtain ⟨A9, c9, rfl, hc9, hm9⟩ := ox9.form
      go_wp2_with fail
      refine hK.out _ _ ?_ (fun hHeld2 => ?_)
      · (first | (try dsimp only); go_keep | (go_split_ands; refine ⟨?_, ?_, ?_, ?_⟩ <;> first | assumption))
      clear hK K hHeld
      have hHeld := hHeld2
      clear hHeld2
      try simp only [Act.put, lyA, lyB, lyC]
      refine wpAnyH_ready (rs := [6]) (by kernel_rfl) (by simp) ?_
      refine AllReadyH.cons (o := ⟨none, _, _, _, _, _⟩) rfl (fun K hK => ?_) AllReadyH.nil
      go_simp
      refine hK.out _ _ ?_ (fun hHeld2 => ?_)
      · (first | (try dsimp only); go_keep | (go_split_ands; refine ⟨?_, ?_, ?_, ?_⟩ <;> first | assumption))
      clear hK K hHeld
      have hHeld := hHeld2
      clear hHeld2
      try simp only [Act.put, lyA, lyB, lyC]
      refine tkW 7 3 rfl rfl (by kernel_rfl) hHeld (by intro w hSw; (try dsimp only at hSw); go_simp; try with_reducible rfl) ?_ (fun _ _ _ h => h)
      simp only [Act.put, lyA, lyB, lyC]
      refine tkW 8 4 rfl rfl (by kernel_rfl) hHeld (by intro w hSw; (try dsimp only at hSw); go_simp; try with_reducible rfl) ?_ (fun _ _ _ h => h)
      simp only [Act.put, lyA, lyB, lyC]
      refine tkW 9 5 rfl rfl (by kernel_rfl) hHeld (by intro w hSw; (try dsimp only at hSw); go_simp; try with_reducible rfl) ?_ (fun _ _ _ h => h)
      simp only [Act.put, lyA, lyB, lyC]
      refine wpAnyH_done (by kernel_rfl) ?_ _
      focus
        obtain ⟨wq, hwq⟩ : ∃ wq, wq = ((((xw.setCell ⟨w.heap.size, 0, none⟩ (.slice A es.length c)).setCell ⟨w.heap.size, 1, none⟩ (.int .i64 a)).setCell ⟨w.heap.size, 2, none⟩ (.int .i64 b)).setCell ⟨w.heap.size, 3, none⟩ (.int .i64 z)) := ⟨_, rfl⟩
        have HBw := Lib.hid (HB5.out.trans (below_of_grown (grown_trans HG7.out bg8) (B := w.heap.size) (by omega) (by omega)))
        have Hbq := Lib.hid (show Below w.heap.size w wq by rw [hwq]; exact ((((HBw.out.setCell (p := ⟨w.heap.size, 0, none⟩) (Nat.le_refl _) _).setCell (p := ⟨w.heap.size, 1, none⟩) (Nat.le_refl _) _).setCell (p := ⟨w.heap.size, 2, none⟩) (Nat.le_refl _) _).setCell (p := ⟨w.heap.size, 3, none⟩) (Nat.le_refl _) _))
        have hzq : wq.heap.size = xw.heap.size := by rw [hwq]; simp [World.setCell]
        have hzx : w7.heap.size ≤ xw.heap.size := bg8.size
        have hfar : ∀ q, w.heap.size < q → wq.heap[q]? = xw.heap[q]? := fun q hq => by rw [hwq]; simp only [World.setCell, Array.getElem?_modify, if_neg (show ¬ w.heap.size = q by omega)]
        have Heq := Lib.hid (show ES wq w.heap.size wq.heap.size (.slice A es.length c) es from ((he7.out.kept (Kept.of_grown bg8 (by omega) (.inl (by omega)))).kept (w' := wq) fun q hq _ => hfar q (by omega)).wide (by omega) (by omega))
        have Hwq9 := Lib.hid (show Ints wq w.heap.size wq.heap.size (.slice (some ⟨wo.heap.size, 0, none⟩) 3 3) [3, 2, 5] from ((HO7.out.grownK bg8 (by omega)).kept (w' := wq) fun q hq _ => hfar q (by omega)).ints.wide (by omega) (by omega))
        have Hxq9 := Lib.hid (show Ints wq w.heap.size wq.heap.size (.slice A9 xs9.length c9) xs9 from (HX9.out.kept (w' := wq) fun q hq _ => hfar q (by have h8 : w7.heap.size ≤ q := hq; omega)).ints.wide (by show w.heap.size ≤ w7.heap.size; omega) (by omega))
        have Hwq := Lib.hid hwq
        clear hwq hzq hfar hzx bg9 bg8 hr9 HX9
        go_wp2
        refine bodyPost_ret (v := .tuple #[.agg #[.slice A es.length c, .int .i64 a, .int .i64 b, .int .i64 z], .int .i64 lb, .slice (some ⟨wo.heap.size, 0, none⟩) 3 3, .slice A9 xs9.length c9]) (by simp [results, Tryz.results7, go_sem, *]) rfl ?_
        refine ⟨A, es.length, c, es, a, b, z, lb, _, _, [3, 2, 5], xs9, rfl, rfl, ?_, HBD.out, HI.out, ?_, ?_, ?_⟩
        · rw [← Hwq.out]; exact Heq.out.kept fun _ _ _ => rfl
        · rw [← Hwq.out]; exact Hwq9.out
        · rw [← Hwq.out]; exact Hxq9.out
        · rw [← Hwq.out]; exact Hbq.out
end Go.Proofs.YtkgepklapglmdaaGreatDoor
