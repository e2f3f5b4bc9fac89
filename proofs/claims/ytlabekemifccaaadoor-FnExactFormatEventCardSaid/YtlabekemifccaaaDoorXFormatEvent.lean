/-
  Lemmas and contracts of single functions of this program, used by the proofs of its laws: what each call returns and what becomes of memory. Conditions: the hypotheses of each theorem.
-/
import Derived.Test.YtlabekemifccaaaDoorTxtD
import Derived.Test.YtlabekemifccaaaDoorEvA
namespace Go.Proofs.YtlabekemifccaaaDoor
open Go.RowKit
attribute [local go_sem ↓] Go.wp_at_zero Go.wp_at_succ

set_option maxRecDepth 100000 in
theorem FormatEventS_any (k a l r f t g : Int) (w : World) (ev : List Int) (hev : ev = [k, a, l, r, f, t, g]) (hI : ∀ x ∈ ev, I64 x) :
    Calls Tryd.prog 11 #[.agg #[.int .i64 k, .int .i64 a, .int .i64 l, .int .i64 r, .int .i64 f, .int .i64 t, .int .i64 g]] w fun e w' => e = .returned (.string (TB (fmtE ev))) ∧ Below w.heap.size w w' := by
  obtain ⟨R, hR⟩ : ∃ R, R = TB (fmtE ev) := ⟨_, rfl⟩
  rw [← hR]
  have HR := Lib.hid hR
  have HE := Lib.hid hev
  have HI := Lib.hid hI
  clear hR hev hI
  have Hs := Lib.hid (show ∃ w1, w1 = (w.alloc (.cells #[.int .i64 k, .int .i64 a, .int .i64 l, .int .i64 r, .int .i64 f, .int .i64 t, .int .i64 g] 29)) ∧ Below w.heap.size w w1 ∧ w1.cell? ⟨w.heap.size, 0, none⟩ = some (.int .i64 k) ∧ w1.cell? ⟨w.heap.size, 1, none⟩ = some (.int .i64 a) ∧ w1.cell? ⟨w.heap.size, 2, none⟩ = some (.int .i64 l) ∧ w1.cell? ⟨w.heap.size, 3, none⟩ = some (.int .i64 r) ∧ w1.cell? ⟨w.heap.size, 4, none⟩ = some (.int .i64 f) ∧ w1.cell? ⟨w.heap.size, 5, none⟩ = some (.int .i64 t) ∧ w1.cell? ⟨w.heap.size, 6, none⟩ = some (.int .i64 g) ∧ w.heap.size < w1.heap.size from by
    have hb : Below w.heap.size w (w.alloc (.cells #[.int .i64 k, .int .i64 a, .int .i64 l, .int .i64 r, .int .i64 f, .int .i64 t, .int .i64 g] 29)) := (Below.refl _ _).alloc (Nat.le_refl _) _
    exact ⟨_, rfl, hb, by go_simp, by go_simp, by go_simp, by go_simp, by go_simp, by go_simp, by go_simp, by simp⟩)
  go_enter Tryd.func11, Tryd.ntmps11
  go_wp2_with fail
  obtain ⟨w1, hw1, hb0, c00, c01, c02, c03, c04, c05, c06, hz⟩ := Hs.out
  rw [← hw1]
  clear hw1 Hs
  refine (showEvent_any k a l r f t g w1 ev HE.out HI.out).mono ?_
  rw [← HR.out]
  rintro e w2 ⟨rfl, b2⟩
  have HB2 := Lib.hid (hb0.trans (b2.mono (by omega)))
  clear b2 hb0
  go_wp2
  go_ret
  exact ⟨rfl, HB2.out⟩
set_option maxRecDepth 100000 in
set_option maxHeartbeats 2000000 in
theorem FnExactFormatEvent_walk (B : Nat) (k a l r f t g : Int) (w : World) (hp : Pow B w) (hI : I64 k ∧ I64 a ∧ I64 l ∧ I64 r ∧ I64 f ∧ I64 t ∧ I64 g) :
    Calls Tryd.prog 3 #[.agg #[.int .i64 k, .int .i64 a, .int .i64 l, .int .i64 r, .int .i64 f, .int .i64 t, .int .i64 g]] w fun e w' => e = .returned (.bool true) ∧ Below w.heap.size w w' := by
  obtain ⟨ev, hev⟩ : ∃ ev, ev = [k, a, l, r, f, t, g] := ⟨_, rfl⟩
  have HE := Lib.hid hev
  have HI := Lib.hid (show ∀ x ∈ ev, I64 x by
    rw [hev]; intro x hx
    simp only [List.mem_cons, List.not_mem_nil, or_false] at hx
    rcases hx with rfl | rfl | rfl | rfl | rfl | rfl | rfl <;> first | exact hI.1 | exact hI.2.1 | exact hI.2.2.1 | exact hI.2.2.2.1 | exact hI.2.2.2.2.1 | exact hI.2.2.2.2.2.1 | exact hI.2.2.2.2.2.2)
  have HP := Lib.hid hp
  obtain ⟨R, hR⟩ : ∃ R, R = TB (fmtE ev) := ⟨_, rfl⟩
  have HR := Lib.hid hR
  clear hR hev hI hp
  have Hs := Lib.hid (show ∃ w1, w1 = (w.alloc (.cells #[.int .i64 k, .int .i64 a, .int .i64 l, .int .i64 r, .int .i64 f, .int .i64 t, .int .i64 g] 25)) ∧ Below w.heap.size w w1 ∧ w1.cell? ⟨w.heap.size, 0, none⟩ = some (.int .i64 k) ∧ w1.cell? ⟨w.heap.size, 1, none⟩ = some (.int .i64 a) ∧ w1.cell? ⟨w.heap.size, 2, none⟩ = some (.int .i64 l) ∧ w1.cell? ⟨w.heap.size, 3, none⟩ = some (.int .i64 r) ∧ w1.cell? ⟨w.heap.size, 4, none⟩ = some (.int .i64 f) ∧ w1.cell? ⟨w.heap.size, 5, none⟩ = some (.int .i64 t) ∧ w1.cell? ⟨w.heap.size, 6, none⟩ = some (.int .i64 g) ∧ w.heap.size < w1.heap.size from by
    have hb : Below w.heap.size w (w.alloc (.cells #[.int .i64 k, .int .i64 a, .int .i64 l, .int .i64 r, .int .i64 f, .int .i64 t, .int .i64 g] 25)) := (Below.refl _ _).alloc (Nat.le_refl _) _
    exact ⟨_, rfl, hb, by go_simp, by go_simp, by go_simp, by go_simp, by go_simp, by go_simp, by go_simp, by simp⟩)
  go_enter Tryd.func3, Tryd.ntmps3
  go_wp2_with fail
  obtain ⟨w1, hw1, hb0, c00, c01, c02, c03, c04, c05, c06, hz⟩ := Hs.out
  rw [← hw1]
  clear hw1 Hs
  refine (toEvent_any k a l r f t g w1).mono ?_
  rintro e w2 ⟨rfl, b2⟩
  replace c00 := keepB b2 c00; replace c01 := keepB b2 c01; replace c02 := keepB b2 c02; replace c03 := keepB b2 c03; replace c04 := keepB b2 c04; replace c05 := keepB b2 c05; replace c06 := keepB b2 c06
  have HB2 := Lib.hid (hb0.trans (b2.mono (by omega)))
  have hz2 : w.heap.size < w2.heap.size := by have := b2.size; omega
  clear b2 hb0
  go_wp2_with fail
  refine (FormatEventS_any k a l r f t g w2 ev HE.out HI.out).mono ?_
  rw [← HR.out]
  rintro e w3 ⟨rfl, b3⟩
  replace c00 := keepB b3 c00; replace c01 := keepB b3 c01; replace c02 := keepB b3 c02; replace c03 := keepB b3 c03; replace c04 := keepB b3 c04; replace c05 := keepB b3 c05; replace c06 := keepB b3 c06
  have HB3 := Lib.hid (HB2.out.trans (b3.mono (by omega)))
  have hz3 : w.heap.size < w3.heap.size := by have := b3.size; omega
  clear b3
  go_wp2_with fail
  refine (toEvent_any k a l r f t g w3).mono ?_
  rintro e w4 ⟨rfl, b4⟩
  have HB4 := Lib.hid (HB3.out.trans (b4.mono (by omega)))
  clear b4
  go_wp2_with fail
  refine (FormatEventI_any B k a l r f t g w4 (HP.out.below HB4.out) ev HE.out HI.out).mono ?_
  rw [← HR.out]
  rintro e w5 ⟨rfl, b5⟩
  have HB5 := Lib.hid (HB4.out.trans (b5.mono (by have := HB4.out.size; omega)))
  clear b5
  go_wp2
  go_ret
  exact ⟨rfl, HB5.out⟩
end Go.Proofs.YtlabekemifccaaaDoor
