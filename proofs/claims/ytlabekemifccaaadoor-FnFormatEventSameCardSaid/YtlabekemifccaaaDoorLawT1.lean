/-
  Lemmas and contracts of single functions of this program, used by the proofs of its laws: what each call returns and what becomes of memory. Conditions: the hypotheses of each theorem.
-/
import Derived.Test.YtlabekemifccaaaDoorXParseEvent
import Derived.Test.YtlabekemifccaaaDoorXFormatEvent
import Derived.Test.YtlabekemifccaaaDoorTxt1
import Derived.Test.YtlabekemifccaaaDoorMillY
namespace Go.Proofs.YtlabekemifccaaaDoor
open Go.RowKit
attribute [local go_sem ↓] Go.wp_at_zero Go.wp_at_succ

theorem fmtE_len (ev : List Int) : (fmtE ev).length ≤ 100 := by
  unfold fmtE
  split
  · rename_i hall
    have h1 := wrd_len (gi ev 0)
    have h2 : ∀ ns : List Int, (∀ i, i < ns.length → 0 ≤ gi ns i ∧ gi ns i ≤ 999999) → (numsT ns).length ≤ 7 * ns.length := by
      intro ns
      induction ns with
      | nil => intro _; simp [numsT]
      | cons x t ih =>
        intro h
        have h3 := ih fun i hi => by have := h (i + 1) (by simp; omega); exact this
        have h4 : 0 ≤ x ∧ x ≤ 999999 := h 0 (by simp)
        have h5 := (dec_len (n := x.toNat) (by omega)).2
        have h6 : numsT (x :: t) = (32 :: Lib.decDigits x.toNat) ++ numsT t := by simp [numsT]
        rw [h6, List.length_append, List.length_cons, List.length_cons]
        omega
    have h3 := h2 (evN ev) (allR_iff.1 hall)
    have h4 := evN_len ev
    have h5 := idxK_len (gi ev 0)
    rw [List.length_append]
    omega
  · simp
theorem toList_isEmpty (z : ByteArray) (l : List UInt8) (h : z = TB l) : z.toList.isEmpty = l.isEmpty := by rw [h, TB_toList]
set_option maxRecDepth 100000 in
set_option maxHeartbeats 2000000 in
theorem DrawFormatEvent_any (v : Value) (xs : List Int) (w : World) (h : Bytes w 0 w.heap.size v xs) :
    Calls Tryd.prog 26 #[v] w fun e w' => ∃ k a l r f t g : Int, e = .returned (.agg #[.int .i64 k, .int .i64 a, .int .i64 l, .int .i64 r, .int .i64 f, .int .i64 t, .int .i64 g]) ∧ (∀ x ∈ [k, a, l, r, f, t, g], I64 x) ∧ Below w.heap.size w w' := by
  have Hs := Lib.hid (show ∃ w1, w1 = (w.alloc (.cells #[.int .i64 0, .int .i64 0, .int .i64 0, .int .i64 0, .int .i64 0, .int .i64 0, .int .i64 0] 29)) ∧ Below w.heap.size w w1 ∧ w1.cell? ⟨w.heap.size, 0, none⟩ = some (.int .i64 0) ∧ w1.cell? ⟨w.heap.size, 1, none⟩ = some (.int .i64 0) ∧ w1.cell? ⟨w.heap.size, 2, none⟩ = some (.int .i64 0) ∧ w1.cell? ⟨w.heap.size, 3, none⟩ = some (.int .i64 0) ∧ w1.cell? ⟨w.heap.size, 4, none⟩ = some (.int .i64 0) ∧ w1.cell? ⟨w.heap.size, 5, none⟩ = some (.int .i64 0) ∧ w1.cell? ⟨w.heap.size, 6, none⟩ = some (.int .i64 0) ∧ w1.frozen? ⟨w.heap.size, 0, none⟩ = false ∧ w1.frozen? ⟨w.heap.size, 1, none⟩ = false ∧ w1.frozen? ⟨w.heap.size, 2, none⟩ = false ∧ w1.frozen? ⟨w.heap.size, 3, none⟩ = false ∧ w1.frozen? ⟨w.heap.size, 4, none⟩ = false ∧ w1.frozen? ⟨w.heap.size, 5, none⟩ = false ∧ w1.frozen? ⟨w.heap.size, 6, none⟩ = false ∧ w.heap.size < w1.heap.size from by
    have hb : Below w.heap.size w (w.alloc (.cells #[.int .i64 0, .int .i64 0, .int .i64 0, .int .i64 0, .int .i64 0, .int .i64 0, .int .i64 0] 29)) := (Below.refl _ _).alloc (Nat.le_refl _) _
    exact ⟨_, rfl, hb, by go_simp, by go_simp, by go_simp, by go_simp, by go_simp, by go_simp, by go_simp, by go_simp, by go_simp, by go_simp, by go_simp, by go_simp, by go_simp, by go_simp, by simp⟩)
  have hb1 : ∀ w1, Below w.heap.size w w1 → Bytes w1 0 w.heap.size v xs := fun w1 hb => h.kept (.of_below hb (Nat.le_refl _))
  have hv : ∃ A n c, v = .slice A n c := by obtain ⟨A, c, e, _⟩ := h; exact ⟨A, _, c, e⟩
  obtain ⟨A0, n0, c0, rfl⟩ := hv
  go_enter Tryd.func26, Tryd.ntmps26
  go_wp2_with fail
  obtain ⟨w1, hw1, hb0, c00, c01, c02, c03, c04, c05, c06, f00, f01, f02, f03, f04, f05, f06, hz⟩ := Hs.out
  rw [← hw1]
  clear hw1 Hs
  have hby := hb1 w1 hb0
  clear hb1 h
  refine (DrawApplyEvent_any _ xs w1 (Bytes.wide hby (Nat.le_refl _) (by omega))).mono ?_
  rintro e w2 ⟨A, n, c, es, ma, mb, mz, ⟨k, a, l, r, f, t, g⟩, rfl, hn, _, _, h64, b2⟩
  dsimp only at h64 ⊢
  replace c00 := keepB b2 c00; replace c01 := keepB b2 c01; replace c02 := keepB b2 c02; replace c03 := keepB b2 c03; replace c04 := keepB b2 c04; replace c05 := keepB b2 c05; replace c06 := keepB b2 c06
  replace f00 := keepF b2 (by first | (simp; done) | (simp; omega)) f00; replace f01 := keepF b2 (by first | (simp; done) | (simp; omega)) f01; replace f02 := keepF b2 (by first | (simp; done) | (simp; omega)) f02; replace f03 := keepF b2 (by first | (simp; done) | (simp; omega)) f03; replace f04 := keepF b2 (by first | (simp; done) | (simp; omega)) f04; replace f05 := keepF b2 (by first | (simp; done) | (simp; omega)) f05; replace f06 := keepF b2 (by first | (simp; done) | (simp; omega)) f06
  have HB2 := Lib.hid (hb0.trans (b2.mono (by omega)))
  have hz2 : w.heap.size < w2.heap.size := by have := b2.size; omega
  have HI := Lib.hid (show ∀ x ∈ [k, a, l, r, f, t, g], I64 x from fun x hx => by
    obtain ⟨i0, i1, i2, i3, i4, i5, i6⟩ := h64
    simp only [List.mem_cons, List.not_mem_nil, or_false] at hx
    rcases hx with rfl | rfl | rfl | rfl | rfl | rfl | rfl
    · exact i0
    · exact i1
    · exact i2
    · exact i3
    · exact i4
    · exact i5
    · exact i6)
  have bd : Below w2.heap.size w2 ((w2.alloc (.cells #[.slice A n c, .int .i64 ma, .int .i64 mb, .int .i64 mz] 52)).alloc (.cells #[.int .i64 k, .int .i64 a, .int .i64 l, .int .i64 r, .int .i64 f, .int .i64 t, .int .i64 g] 29)) := ((Below.refl _ _).alloc (Nat.le_refl _) _).alloc (by simp) _
  have d00 := keepB bd c00
  have d01 := keepB bd c01
  have d02 := keepB bd c02
  have d03 := keepB bd c03
  have d04 := keepB bd c04
  have d05 := keepB bd c05
  have d06 := keepB bd c06
  have g00 := keepF bd hz2 f00
  have g01 := keepF bd hz2 f01
  have g02 := keepF bd hz2 f02
  have g03 := keepF bd hz2 f03
  have g04 := keepF bd hz2 f04
  have g05 := keepF bd hz2 f05
  have g06 := keepF bd hz2 f06
  have hz3 : ¬ w.heap.size = w2.heap.size := by omega
  have hz4 : ¬ w.heap.size = w2.heap.size + 1 := by omega
  clear hb0 b2 hby hn h64 bd
  go_wp2
  refine bodyPost_ret (v := .agg #[.int .i64 k, .int .i64 a, .int .i64 l, .int .i64 r, .int .i64 f, .int .i64 t, .int .i64 g]) (by simp [results, Tryd.results26, go_sem, *]) rfl ⟨k, a, l, r, f, t, g, rfl, HI.out, ?_⟩
  have h7 := below7 HB2.out (Nat.le_refl w.heap.size) (.int .i64 k) (.int .i64 a) (.int .i64 l) (.int .i64 r) (.int .i64 f) (.int .i64 t) (.int .i64 g)
  exact (h7.alloc h7.size _).alloc (h7.alloc h7.size _).size _
set_option maxRecDepth 100000 in
set_option maxHeartbeats 4000000 in
theorem FnFormatEvent_walk (B : Nat) (v : Value) (xs : List Int) (w : World) (hp : Pow B w) (hsh : w.ShapedOpen Tryd.prog) (h : Bytes w 0 w.heap.size v xs) :
    Calls Tryd.prog 7 #[v] w fun e w' => e = .returned (.bool true) ∧ Below w.heap.size w w' := by
  have hv : ∃ A c, v = .slice A xs.length c ∧ xs.length ≤ c ∧ c ≤ 2 ^ 63 - 1 := by obtain ⟨A, c, e, h1, h2, _⟩ := h; exact ⟨A, c, e, h1, by unfold maxLen at h2; omega⟩
  obtain ⟨A0, c0, rfl, hc0, hm0⟩ := hv
  have HP := Lib.hid hp
  have HSH := Lib.hid hsh
  clear hp hsh
  by_cases hl : 1048576 < xs.length
  · have hl' : (1048576 : Int) < (xs.length : Int) := by omega
    go_enter Tryd.func7, Tryd.ntmps7
    go_wp2
    go_ret
    exact ⟨rfl, Below.refl _ _⟩
  have hl' : ¬ (1048576 : Int) < (xs.length : Int) := by omega
  go_enter Tryd.func7, Tryd.ntmps7
  go_wp2_with fail
  refine (DrawFormatEvent_any _ xs w h).mono ?_
  rintro e w2 ⟨k, a, l, r, f, t, g, rfl, hi, b2⟩
  obtain ⟨ev, hev⟩ : ∃ ev, ev = [k, a, l, r, f, t, g] := ⟨_, rfl⟩
  have HEV := Lib.hid hev
  have HI := Lib.hid (show ∀ x ∈ ev, I64 x by rw [hev]; exact hi)
  have HG0 := Lib.hid (show gi ev 0 = k by rw [hev]; rfl)
  have HB2 := Lib.hid b2
  obtain ⟨T, hT⟩ : ∃ T, T = fmtE ev := ⟨_, rfl⟩
  have HT := Lib.hid hT
  obtain ⟨z, hz⟩ : ∃ z, z = TB T := ⟨_, rfl⟩
  have HZ := Lib.hid hz
  have HZI := Lib.hid (toList_isEmpty z T hz)
  have HTL := Lib.hid (show T.length ≤ 100 by rw [hT]; exact fmtE_len ev)
  have HPF := Lib.hid (show T ≠ [] → _ from fun h9 => par_fmt (ev := ev) (by rw [← hT]; exact h9))
  rw [← hT] at HPF
  clear h hl hl' b2 hi hev hT hz
  go_wp2_with fail
  obtain ⟨w3, hw1⟩ : ∃ w3, w3 = w2.alloc (.cells #[.int .i64 k, .int .i64 a, .int .i64 l, .int .i64 r, .int .i64 f, .int .i64 t, .int .i64 g] 29) := ⟨_, rfl⟩
  have x0 : w3.cell? ⟨w2.heap.size, 0, none⟩ = some (.int .i64 k) := by rw [hw1]; go_simp
  have x1 : w3.cell? ⟨w2.heap.size, 1, none⟩ = some (.int .i64 a) := by rw [hw1]; go_simp
  have x2 : w3.cell? ⟨w2.heap.size, 2, none⟩ = some (.int .i64 l) := by rw [hw1]; go_simp
  have x3 : w3.cell? ⟨w2.heap.size, 3, none⟩ = some (.int .i64 r) := by rw [hw1]; go_simp
  have x4 : w3.cell? ⟨w2.heap.size, 4, none⟩ = some (.int .i64 f) := by rw [hw1]; go_simp
  have x5 : w3.cell? ⟨w2.heap.size, 5, none⟩ = some (.int .i64 t) := by rw [hw1]; go_simp
  have x6 : w3.cell? ⟨w2.heap.size, 6, none⟩ = some (.int .i64 g) := by rw [hw1]; go_simp
  have bx : Below w2.heap.size w2 w3 := by rw [hw1]; exact (Below.refl _ _).alloc (Nat.le_refl _) _
  have zx : w2.heap.size < w3.heap.size := by rw [hw1]; simp
  have Hx := Lib.hid (show w3.heap[w2.heap.size]? = some (.cells #[.int .i64 k, .int .i64 a, .int .i64 l, .int .i64 r, .int .i64 f, .int .i64 t, .int .i64 g] 29) by rw [hw1]; exact heap_alloc_new w2 _)
  rw [← hw1]
  clear hw1
  have HB3 := Lib.hid (HB2.out.trans (bx.mono HB2.out.size))
  have z23 : w2.heap.size < w3.heap.size := zx
  have zw2 := HB2.out.size
  clear bx Hx zx
  refine (FormatEventI_any B k a l r f t g w3 (HP.out.below HB3.out) ev HEV.out HI.out).mono ?_
  rw [← HT.out, ← HZ.out]
  rintro e w4 ⟨rfl, b4⟩
  replace x0 := keepB b4 x0; replace x1 := keepB b4 x1; replace x2 := keepB b4 x2; replace x3 := keepB b4 x3; replace x4 := keepB b4 x4; replace x5 := keepB b4 x5; replace x6 := keepB b4 x6
  have HB4 := Lib.hid (HB3.out.trans (b4.mono (by omega)))
  have z34 := b4.size
  clear b4
  go_wp2_with fail
  refine (FormatEventS_any k a l r f t g w4 ev HEV.out HI.out).mono ?_
  rw [← HT.out, ← HZ.out]
  rintro e w5 ⟨rfl, b5⟩
  replace x0 := keepB b5 x0; replace x1 := keepB b5 x1; replace x2 := keepB b5 x2; replace x3 := keepB b5 x3; replace x4 := keepB b5 x4; replace x5 := keepB b5 x5; replace x6 := keepB b5 x6
  have HB5 := Lib.hid (HB4.out.trans (b5.mono (by omega)))
  have z45 := b5.size
  clear b5
  have hzz : (z.toList == z.toList) = true := by simp
  cases hem : T.isEmpty
  rotate_left
  · have q1 : z.toList.isEmpty = true := by rw [HZI.out, hem]
    clear hem
    go_wp2_with fail
    refine (FormatEventS_any k a l r f t g w5 ev HEV.out HI.out).mono ?_
    rw [← HT.out, ← HZ.out]
    rintro e w6 ⟨rfl, b6⟩
    have HB6 := Lib.hid (HB5.out.trans (b6.mono (by omega)))
    clear b6
    go_wp2
    go_ret
    exact ⟨rfl, HB6.out⟩
  have q1 : z.toList.isEmpty = false := by rw [HZI.out, hem]
  have hne : T ≠ [] := fun e => by rw [e] at hem; exact absurd hem (by simp)
  obtain ⟨ev', hpe, hfe, hg0, _, _, _, _⟩ := HPF.out hne
  have HPE := Lib.hid hpe
  have HFE := Lib.hid hfe
  have HGG := Lib.hid hg0
  clear hem hne hpe hfe hg0
  go_wp2_with fail
  refine (ParseEventI_any T z HZ.out w5 (by have := HTL.out; omega) (shaped_below HSH.out HB5.out)).mono ?_
  intro e w6 hpp
  obtain ⟨b6, k', a', l', r', f', t', g', ok, rfl, hE, hO, hrg⟩ := hpp.form
  rw [HPE.out] at hE hO
  obtain rfl : ok = true := hO
  have HE := Lib.hid (show ev' = [k', a', l', r', f', t', g'] from hE.symm)
  have HI' := Lib.hid (show ∀ x ∈ ev', I64 x by rw [HE.out]; exact fun x hx => by have := hrg x hx; exact ⟨by omega, by omega⟩)
  obtain rfl : k' = k := by
    have h9 := HGG.out
    rw [HE.out, HG0.out] at h9
    exact h9
  replace x0 := keepB b6 x0; replace x1 := keepB b6 x1; replace x2 := keepB b6 x2; replace x3 := keepB b6 x3; replace x4 := keepB b6 x4; replace x5 := keepB b6 x5; replace x6 := keepB b6 x6
  have HB6 := Lib.hid (HB5.out.trans (b6.mono (by omega)))
  have z56 := b6.size
  clear hpp hE hrg b6
  have hbd : Below w6.heap.size w6 (w6.alloc (.cells #[.int .i64 k', .int .i64 a', .int .i64 l', .int .i64 r', .int .i64 f', .int .i64 t', .int .i64 g'] 29)) := (Below.refl _ _).alloc (Nat.le_refl _) _
  have x_x0 := keepB hbd x0
  have x_x1 := keepB hbd x1
  have x_x2 := keepB hbd x2
  have x_x3 := keepB hbd x3
  have x_x4 := keepB hbd x4
  have x_x5 := keepB hbd x5
  have x_x6 := keepB hbd x6
  go_wp2_with fail
  clear hbd x_x0 x_x1 x_x2 x_x3 x_x4 x_x5 x_x6
  obtain ⟨w7, hw1⟩ : ∃ w7, w7 = w6.alloc (.cells #[.int .i64 k', .int .i64 a', .int .i64 l', .int .i64 r', .int .i64 f', .int .i64 t', .int .i64 g'] 29) := ⟨_, rfl⟩
  have y_0 : w7.cell? ⟨w6.heap.size, 0, none⟩ = some (.int .i64 k') := by rw [hw1]; go_simp
  have y_1 : w7.cell? ⟨w6.heap.size, 1, none⟩ = some (.int .i64 a') := by rw [hw1]; go_simp
  have y_2 : w7.cell? ⟨w6.heap.size, 2, none⟩ = some (.int .i64 l') := by rw [hw1]; go_simp
  have y_3 : w7.cell? ⟨w6.heap.size, 3, none⟩ = some (.int .i64 r') := by rw [hw1]; go_simp
  have y_4 : w7.cell? ⟨w6.heap.size, 4, none⟩ = some (.int .i64 f') := by rw [hw1]; go_simp
  have y_5 : w7.cell? ⟨w6.heap.size, 5, none⟩ = some (.int .i64 t') := by rw [hw1]; go_simp
  have y_6 : w7.cell? ⟨w6.heap.size, 6, none⟩ = some (.int .i64 g') := by rw [hw1]; go_simp
  have by_ : Below w6.heap.size w6 w7 := by rw [hw1]; exact (Below.refl _ _).alloc (Nat.le_refl _) _
  have zy_ : w6.heap.size < w7.heap.size := by rw [hw1]; simp
  have Hy_ := Lib.hid (show w7.heap[w6.heap.size]? = some (.cells #[.int .i64 k', .int .i64 a', .int .i64 l', .int .i64 r', .int .i64 f', .int .i64 t', .int .i64 g'] 29) by rw [hw1]; exact heap_alloc_new w6 _)
  rw [← hw1]
  clear hw1
  have HB7 := Lib.hid (HB6.out.trans (by_.mono HB6.out.size))
  replace x0 := keepB by_ x0; replace x1 := keepB by_ x1; replace x2 := keepB by_ x2; replace x3 := keepB by_ x3; replace x4 := keepB by_ x4; replace x5 := keepB by_ x5; replace x6 := keepB by_ x6
  clear by_ Hy_ zy_
  refine (FormatEventI_any B k' a' l' r' f' t' g' w7 (HP.out.below HB7.out) ev' HE.out HI'.out).mono ?_
  rw [HFE.out, ← HZ.out]
  rintro e w8 ⟨rfl, b8⟩
  replace x0 := keepB b8 x0; replace x1 := keepB b8 x1; replace x2 := keepB b8 x2; replace x3 := keepB b8 x3; replace x4 := keepB b8 x4; replace x5 := keepB b8 x5; replace x6 := keepB b8 x6; replace y_0 := keepB b8 y_0; replace y_1 := keepB b8 y_1; replace y_2 := keepB b8 y_2; replace y_3 := keepB b8 y_3; replace y_4 := keepB b8 y_4; replace y_5 := keepB b8 y_5; replace y_6 := keepB b8 y_6
  have HB8 := Lib.hid (HB7.out.trans (b8.mono HB7.out.size))
  have hkk : (k' == k') = true := by simp
  clear b8
  go_wp2
  go_ret
  exact ⟨rfl, HB8.out⟩
end Go.Proofs.YtlabekemifccaaaDoor
