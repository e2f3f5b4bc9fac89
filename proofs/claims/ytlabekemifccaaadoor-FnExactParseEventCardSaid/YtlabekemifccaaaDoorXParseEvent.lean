/-
  Lemmas and contracts of single functions of this program, used by the proofs of its laws: what each call returns and what becomes of memory. Conditions: the hypotheses of each theorem.
-/
import Derived.Test.YtlabekemifccaaaDoorTxtH
import Derived.Test.YtlabekemifccaaaDoorEvA
namespace Go.Proofs.YtlabekemifccaaaDoor
open Go.RowKit
attribute [local go_sem ↓] Go.wp_at_zero Go.wp_at_succ

def zev : List Int := [0, 0, 0, 0, 0, 0, 0]
theorem PePost.form {l : List UInt8} {w w' : World} {e : Ending} (h : PePost l w e w') : Below w.heap.size w w' ∧ ∃ (k a b c d f g : Int) (ok : Bool), e = .returned (.tuple #[.agg #[.int .i64 k, .int .i64 a, .int .i64 b, .int .i64 c, .int .i64 d, .int .i64 f, .int .i64 g], .bool ok]) ∧ [k, a, b, c, d, f, g] = (parE l).getD zev ∧ ok = (parE l).isSome ∧ (∀ x ∈ [k, a, b, c, d, f, g], 0 ≤ x ∧ x ≤ 999999) := by
  obtain ⟨hb, ⟨hn, rfl⟩ | ⟨k, a, b, c, d, f, g, hn, hk, hx, rfl⟩⟩ := h
  · exact ⟨hb, 0, 0, 0, 0, 0, 0, 0, false, rfl, by rw [hn]; rfl, by rw [hn]; rfl, by simp⟩
  · refine ⟨hb, k, a, b, c, d, f, g, true, rfl, by rw [hn]; rfl, by rw [hn]; rfl, fun x hx9 => ?_⟩
    rcases List.mem_cons.1 hx9 with rfl | h9
    · omega
    · exact hx x h9
theorem str_TB (s : ByteArray) : ∃ l, s = TB l ∧ s.size = l.length := ⟨s.data.toList, by cases s; simp [TB], by cases s; simp [ByteArray.size]⟩
theorem ev_inj {k a b c d f g k' a' b' c' d' f' g' : Int} (h : [k, a, b, c, d, f, g] = [k', a', b', c', d', f', g']) : k = k' ∧ a = a' ∧ b = b' ∧ c = c' ∧ d = d' ∧ f = f' ∧ g = g' := by simpa using h
set_option maxRecDepth 100000 in
set_option maxHeartbeats 2000000 in
theorem FnExactParseEvent_walk (s : ByteArray) (w : World) (hsh : w.ShapedOpen Tryd.prog) (_ : s.size ≤ maxLen) :
    Calls Tryd.prog 4 #[.string s] w fun e w' => e = .returned (.bool true) ∧ Below w.heap.size w w' := by
  obtain ⟨l, hs, hsl⟩ := str_TB s
  have HSH := Lib.hid hsh
  have HS := Lib.hid hs
  obtain ⟨n, hn⟩ : ∃ n, n = s.size := ⟨_, rfl⟩
  have hsn : s.size = n := hn.symm
  have hln : l.length ≤ n := by omega
  clear hs hsl hn hsh
  by_cases hbig : 1048576 < n
  · have y : (1048576 : Int) < (n : Int) := by omega
    go_enter Tryd.func4, Tryd.ntmps4
    go_wp2
    go_ret
    exact ⟨rfl, Below.refl _ _⟩
  have y : ¬ (1048576 : Int) < (n : Int) := by omega
  go_enter Tryd.func4, Tryd.ntmps4
  go_wp2_with fail
  refine (ParseEventS_any l s HS.out w (by omega)).mono ?_
  intro e w2 hp
  obtain ⟨b2, k, a, b, c, d, f, g, ok, rfl, hE, hO, _⟩ := hp.form
  have HE := Lib.hid hE
  have HO := Lib.hid hO
  have HB2 := Lib.hid b2
  clear hp hE hO b2
  go_wp2_with fail
  obtain ⟨w3, hw1⟩ : ∃ w3, w3 = w2.alloc (.cells #[.int .i64 k, .int .i64 a, .int .i64 b, .int .i64 c, .int .i64 d, .int .i64 f, .int .i64 g] 29) := ⟨_, rfl⟩
  have x0 : w3.cell? ⟨w2.heap.size, 0, none⟩ = some (.int .i64 k) := by rw [hw1]; go_simp
  have x1 : w3.cell? ⟨w2.heap.size, 1, none⟩ = some (.int .i64 a) := by rw [hw1]; go_simp
  have x2 : w3.cell? ⟨w2.heap.size, 2, none⟩ = some (.int .i64 b) := by rw [hw1]; go_simp
  have x3 : w3.cell? ⟨w2.heap.size, 3, none⟩ = some (.int .i64 c) := by rw [hw1]; go_simp
  have x4 : w3.cell? ⟨w2.heap.size, 4, none⟩ = some (.int .i64 d) := by rw [hw1]; go_simp
  have x5 : w3.cell? ⟨w2.heap.size, 5, none⟩ = some (.int .i64 f) := by rw [hw1]; go_simp
  have x6 : w3.cell? ⟨w2.heap.size, 6, none⟩ = some (.int .i64 g) := by rw [hw1]; go_simp
  have bx : Below w2.heap.size w2 w3 := by rw [hw1]; exact (Below.refl _ _).alloc (Nat.le_refl _) _
  have zx : w2.heap.size < w3.heap.size := by rw [hw1]; simp
  have Hx := Lib.hid (show w3.heap[w2.heap.size]? = some (.cells #[.int .i64 k, .int .i64 a, .int .i64 b, .int .i64 c, .int .i64 d, .int .i64 f, .int .i64 g] 29) by rw [hw1]; exact heap_alloc_new w2 _)
  rw [← hw1]
  clear hw1
  have HB3 := Lib.hid (HB2.out.trans (bx.mono HB2.out.size))
  have z23 : w2.heap.size < w3.heap.size := zx
  have zw2 := HB2.out.size
  clear bx Hx zx
  refine (ParseEventI_any l s HS.out w3 (by omega) (shaped_below HSH.out HB3.out)).mono ?_
  intro e w4 hp
  obtain ⟨b4, k', a', b', c', d', f', g', ok', rfl, hE, hO, _⟩ := hp.form
  obtain ⟨rfl, rfl, rfl, rfl, rfl, rfl, rfl⟩ := ev_inj (HE.out.trans hE.symm)
  obtain rfl : ok = ok' := HO.out.trans hO.symm
  replace x0 := keepB b4 x0; replace x1 := keepB b4 x1; replace x2 := keepB b4 x2; replace x3 := keepB b4 x3; replace x4 := keepB b4 x4; replace x5 := keepB b4 x5; replace x6 := keepB b4 x6
  have HB4 := Lib.hid (HB3.out.trans (b4.mono (by omega)))
  have z34 := b4.size
  clear hp hE hO b4
  have hok : (ok != ok) = false := by simp
  have hbd : Below w4.heap.size w4 (w4.alloc (.cells #[.int .i64 k, .int .i64 a, .int .i64 b, .int .i64 c, .int .i64 d, .int .i64 f, .int .i64 g] 29)) := (Below.refl _ _).alloc (Nat.le_refl _) _
  have x_x0 := keepB hbd x0
  have x_x1 := keepB hbd x1
  have x_x2 := keepB hbd x2
  have x_x3 := keepB hbd x3
  have x_x4 := keepB hbd x4
  have x_x5 := keepB hbd x5
  have x_x6 := keepB hbd x6
  go_wp2_with fail
  clear hbd x_x0 x_x1 x_x2 x_x3 x_x4 x_x5 x_x6
  obtain ⟨w5, hw1⟩ : ∃ w5, w5 = w4.alloc (.cells #[.int .i64 k, .int .i64 a, .int .i64 b, .int .i64 c, .int .i64 d, .int .i64 f, .int .i64 g] 29) := ⟨_, rfl⟩
  have y_0 : w5.cell? ⟨w4.heap.size, 0, none⟩ = some (.int .i64 k) := by rw [hw1]; go_simp
  have y_1 : w5.cell? ⟨w4.heap.size, 1, none⟩ = some (.int .i64 a) := by rw [hw1]; go_simp
  have y_2 : w5.cell? ⟨w4.heap.size, 2, none⟩ = some (.int .i64 b) := by rw [hw1]; go_simp
  have y_3 : w5.cell? ⟨w4.heap.size, 3, none⟩ = some (.int .i64 c) := by rw [hw1]; go_simp
  have y_4 : w5.cell? ⟨w4.heap.size, 4, none⟩ = some (.int .i64 d) := by rw [hw1]; go_simp
  have y_5 : w5.cell? ⟨w4.heap.size, 5, none⟩ = some (.int .i64 f) := by rw [hw1]; go_simp
  have y_6 : w5.cell? ⟨w4.heap.size, 6, none⟩ = some (.int .i64 g) := by rw [hw1]; go_simp
  have by_ : Below w4.heap.size w4 w5 := by rw [hw1]; exact (Below.refl _ _).alloc (Nat.le_refl _) _
  have zy_ : w4.heap.size < w5.heap.size := by rw [hw1]; simp
  have Hy_ := Lib.hid (show w5.heap[w4.heap.size]? = some (.cells #[.int .i64 k, .int .i64 a, .int .i64 b, .int .i64 c, .int .i64 d, .int .i64 f, .int .i64 g] 29) by rw [hw1]; exact heap_alloc_new w4 _)
  rw [← hw1]
  clear hw1
  have HB5 := Lib.hid (HB4.out.trans (by_.mono HB4.out.size))
  clear by_ Hy_ zy_
  refine (eqEvent_same k a b c d f g w5).mono ?_
  rintro e w6 ⟨rfl, b6⟩
  have HB6 := Lib.hid (HB5.out.trans (b6.mono HB5.out.size))
  clear b6
  go_wp2
  go_ret
  exact ⟨rfl, HB6.out⟩
end Go.Proofs.YtlabekemifccaaaDoor
