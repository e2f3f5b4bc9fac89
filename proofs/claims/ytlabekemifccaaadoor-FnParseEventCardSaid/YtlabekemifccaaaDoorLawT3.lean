/-
  Lemmas and contracts of single functions of this program, used by the proofs of its laws: what each call returns and what becomes of memory. Conditions: the hypotheses of each theorem.
-/
import Derived.Test.YtlabekemifccaaaDoorLawT1
import Derived.Test.YtlabekemifccaaaDoorEqE
import Derived.Test.YtlabekemifccaaaDoorMut
namespace Go.Proofs.YtlabekemifccaaaDoor
open Go.RowKit
attribute [local go_sem ↓] Go.wp_at_zero Go.wp_at_succ

set_option maxRecDepth 100000 in
set_option maxHeartbeats 4000000 in
theorem DrawParseEvent_any (v : Value) (xs : List Int) (w : World) (h : Bytes w 0 w.heap.size v xs) :
    Calls Tryd.prog 27 #[v] w fun e w' => ∃ l : List UInt8, e = .returned (.string (TB l)) ∧ l.length ≤ 101 ∧ Below w.heap.size w w' := by
  have hv : ∃ A n c, v = .slice A n c := by obtain ⟨A, c, e, _⟩ := h; exact ⟨A, _, c, e⟩
  obtain ⟨A0, n0, c0, rfl⟩ := hv
  go_enter Tryd.func27, Tryd.ntmps27
  go_wp2_with fail
  refine (newReader_any _ xs w h).mono ?_
  rintro e w2 ⟨rv, rfl, hr2, bb⟩
  have hz2 := hr2.lt
  have hs2 := bb.size
  clear h
  go_wp2_with fail
  refine (someBook_any _ _ _ _ w2 hr2 (by omega)).mono ?_
  rintro e w3 ⟨vs, u, evs, ⟨es, a, b, z⟩, k3, rfl, _, hes, _, hok, _, hk3, hr3, bg⟩
  dsimp only at hes hok ⊢
  obtain ⟨A, c, rfl, hc, hm⟩ := hes.form
  have hs3 := bg.size
  have HB3 := Lib.hid (bb.trans (below_of_grown bg (B := w.heap.size) (by omega) (by omega)))
  have HOK := Lib.hid (show vMill es a b z = true from hok)
  clear bb bg hr2 hok
  go_wp2_with fail
  obtain ⟨w4, hw1⟩ : ∃ w4, w4 = w3.alloc (.cells #[.slice A es.length c, .int .i64 a, .int .i64 b, .int .i64 z] 52) := ⟨_, rfl⟩
  have x0 : w4.cell? ⟨w3.heap.size, 0, none⟩ = some (.slice A es.length c) := by rw [hw1]; go_simp
  have x1 : w4.cell? ⟨w3.heap.size, 1, none⟩ = some (.int .i64 a) := by rw [hw1]; go_simp
  have x2 : w4.cell? ⟨w3.heap.size, 2, none⟩ = some (.int .i64 b) := by rw [hw1]; go_simp
  have x3 : w4.cell? ⟨w3.heap.size, 3, none⟩ = some (.int .i64 z) := by rw [hw1]; go_simp
  have bx : Below w3.heap.size w3 w4 := by rw [hw1]; exact (Below.refl _ _).alloc (Nat.le_refl _) _
  have zx : w3.heap.size < w4.heap.size := by rw [hw1]; simp
  have HZx := Lib.hid (show w4.heap.size = w3.heap.size + 1 by rw [hw1]; simp)
  have fx0 : w4.frozen? ⟨w3.heap.size, 0, none⟩ = false := by rw [hw1]; go_simp
  have fx1 : w4.frozen? ⟨w3.heap.size, 1, none⟩ = false := by rw [hw1]; go_simp
  have fx2 : w4.frozen? ⟨w3.heap.size, 2, none⟩ = false := by rw [hw1]; go_simp
  have fx3 : w4.frozen? ⟨w3.heap.size, 3, none⟩ = false := by rw [hw1]; go_simp
  have Hx := Lib.hid (show w4.heap[w3.heap.size]? = some (.cells #[.slice A es.length c, .int .i64 a, .int .i64 b, .int .i64 z] 52) by rw [hw1]; exact heap_alloc_new w3 _)
  rw [← hw1]
  clear hw1
  have hr4 := hr3.below bx
  have he4 := hes.below bx (Nat.le_refl _)
  have HB4 := Lib.hid (HB3.out.trans (bx.mono HB3.out.size))
  have hs4 := bx.size
  clear bx hr3 hes HB3 Hx HZx
  refine (someEvent_any _ _ _ w2.heap.size w3.heap.size _ _ es a b z w4 hr4 (by omega) he4 (by omega) hz2.2 (mill_sizes HOK.out).1 (fun j hj => ((vMill_iff.1 HOK.out).1 j hj).1)).mono ?_
  rintro e w5 ⟨⟨k, lb, l, r, f, t, g⟩, k4, rfl, h64, hk4, hr5, bg⟩
  dsimp only at h64 ⊢
  have hs5 := bg.size
  have HB5 := Lib.hid (HB4.out.trans (below_of_grown bg (B := w.heap.size) (by omega) (by omega)))
  obtain ⟨ev, hev⟩ : ∃ ev, ev = [k, lb, l, r, f, t, g] := ⟨_, rfl⟩
  have HEV := Lib.hid hev
  have HI := Lib.hid (show ∀ x ∈ ev, I64 x from by
    rw [hev]
    intro x hx
    obtain ⟨i0, i1, i2, i3, i4, i5, i6⟩ := h64
    simp only [List.mem_cons, List.not_mem_nil, or_false] at hx
    rcases hx with rfl | rfl | rfl | rfl | rfl | rfl | rfl
    · exact i0
    · exact i1
    · exact i2
    · exact i3
    · exact i4
    · exact i5
    · exact i6)
  obtain ⟨T, hT⟩ : ∃ T, T = fmtE ev := ⟨_, rfl⟩
  have HT := Lib.hid hT
  obtain ⟨zt, hzt⟩ : ∃ z, z = TB T := ⟨_, rfl⟩
  have HZ := Lib.hid hzt
  have HTL := Lib.hid (show T.length ≤ 100 by rw [hT]; exact fmtE_len ev)
  clear bg hr4 he4 HB4 h64 hev hT hzt x0 x1 x2 x3 fx0 fx1 fx2 fx3
  go_wp2_with fail
  refine (showEvent_any k lb l r f t g w5 ev HEV.out HI.out).mono ?_
  rw [← HT.out, ← HZ.out]
  rintro e w6 ⟨rfl, b6⟩
  have hr6 := hr5.below b6
  have hs6 := b6.size
  have HB6 := Lib.hid (HB5.out.trans (b6.mono HB5.out.size))
  clear b6 hr5 HB5
  go_wp2_with fail
  refine (pick_any _ _ _ _ 3 w6 hr6 (by omega) (by omega)).mono ?_
  rintro e w7 ⟨q, rfl, hm9, hr7, bo⟩
  have hs7 := bo.size
  have HB7 := Lib.hid (HB6.out.trans (below_of_grown (grown_only bo) (B := w.heap.size) (by omega) (by omega)))
  clear bo hm9 hr6 HB6
  by_cases hq : q = 0
  · have e0 : (q == 0) = true := beq_t hq
    clear hq
    go_wp2_with fail
    refine (mutate_any _ _ _ _ T zt HZ.out w7 hr7 (by omega) (by have := HTL.out; omega)).mono ?_
    rintro e w8 ⟨l', k8, rfl, hl', _, _, bg⟩
    have HB8 := Lib.hid (HB7.out.trans (below_of_grown bg (B := w.heap.size) (by omega) (by omega)))
    have HL8 := Lib.hid (show l'.length ≤ 101 by have := HTL.out; omega)
    clear hl' bg
    go_wp2
    go_ret
    exact ⟨_, rfl, HL8.out, HB8.out⟩
  have e0 : (q == 0) = false := beq_f hq
  clear hq hr7
  go_wp2
  go_ret
  exact ⟨T, congrArg (fun z => Ending.returned (Value.string z)) HZ.out, by have := HTL.out; omega, HB7.out⟩
set_option maxRecDepth 100000 in
set_option maxHeartbeats 4000000 in
theorem FnParseEvent_walk (B : Nat) (v : Value) (xs : List Int) (w : World) (hp : Pow B w) (hsh : w.ShapedOpen Tryd.prog) (h : Bytes w 0 w.heap.size v xs) :
    Calls Tryd.prog 8 #[v] w fun e w' => e = .returned (.bool true) ∧ Below w.heap.size w w' := by
  have hv : ∃ A c, v = .slice A xs.length c ∧ xs.length ≤ c ∧ c ≤ 2 ^ 63 - 1 := by obtain ⟨A, c, e, h1, h2, _⟩ := h; exact ⟨A, c, e, h1, by unfold maxLen at h2; omega⟩
  obtain ⟨A0, c0, rfl, hc0, hm0⟩ := hv
  have HP := Lib.hid hp
  have HSH := Lib.hid hsh
  clear hp hsh
  by_cases hl : 1048576 < xs.length
  · have hl' : (1048576 : Int) < (xs.length : Int) := by omega
    go_enter Tryd.func8, Tryd.ntmps8
    go_wp2
    go_ret
    exact ⟨rfl, Below.refl _ _⟩
  have hl' : ¬ (1048576 : Int) < (xs.length : Int) := by omega
  go_enter Tryd.func8, Tryd.ntmps8
  go_wp2_with fail
  refine (DrawParseEvent_any _ xs w h).mono ?_
  rintro e w2 ⟨T, rfl, hT, b2⟩
  obtain ⟨zt, hzt⟩ : ∃ z, z = TB T := ⟨_, rfl⟩
  rw [← hzt]
  have HZ := Lib.hid hzt
  have HTL := Lib.hid hT
  have HB2 := Lib.hid b2
  have hs2 := b2.size
  clear h hl hl' b2 hT hzt
  go_wp2_with fail
  refine (ParseEventI_any T zt HZ.out w2 (by have := HTL.out; omega) (shaped_below HSH.out HB2.out)).mono ?_
  intro e w3 hpp
  obtain ⟨b3, k', a', b', c', d', f', g', ok, rfl, hE, hO, hrg⟩ := hpp.form
  have HE := Lib.hid hE
  have HO := Lib.hid hO
  have HRG := Lib.hid hrg
  have HB3 := Lib.hid (HB2.out.trans (b3.mono HB2.out.size))
  have hs3 := b3.size
  clear hpp b3 hE hO hrg
  go_wp2_with fail
  obtain ⟨w4, hw1⟩ : ∃ w4, w4 = w3.alloc (.cells #[.int .i64 k', .int .i64 a', .int .i64 b', .int .i64 c', .int .i64 d', .int .i64 f', .int .i64 g'] 29) := ⟨_, rfl⟩
  have x0 : w4.cell? ⟨w3.heap.size, 0, none⟩ = some (.int .i64 k') := by rw [hw1]; go_simp
  have x1 : w4.cell? ⟨w3.heap.size, 1, none⟩ = some (.int .i64 a') := by rw [hw1]; go_simp
  have x2 : w4.cell? ⟨w3.heap.size, 2, none⟩ = some (.int .i64 b') := by rw [hw1]; go_simp
  have x3 : w4.cell? ⟨w3.heap.size, 3, none⟩ = some (.int .i64 c') := by rw [hw1]; go_simp
  have x4 : w4.cell? ⟨w3.heap.size, 4, none⟩ = some (.int .i64 d') := by rw [hw1]; go_simp
  have x5 : w4.cell? ⟨w3.heap.size, 5, none⟩ = some (.int .i64 f') := by rw [hw1]; go_simp
  have x6 : w4.cell? ⟨w3.heap.size, 6, none⟩ = some (.int .i64 g') := by rw [hw1]; go_simp
  have bx : Below w3.heap.size w3 w4 := by rw [hw1]; exact (Below.refl _ _).alloc (Nat.le_refl _) _
  have zx : w3.heap.size < w4.heap.size := by rw [hw1]; simp
  have Hx := Lib.hid (show w4.heap[w3.heap.size]? = some (.cells #[.int .i64 k', .int .i64 a', .int .i64 b', .int .i64 c', .int .i64 d', .int .i64 f', .int .i64 g'] 29) by rw [hw1]; exact heap_alloc_new w3 _)
  rw [← hw1]
  clear hw1
  have HB4 := Lib.hid (HB3.out.trans (bx.mono HB3.out.size))
  have hs4 := bx.size
  clear bx Hx
  refine (ParseEventS_any T zt HZ.out w4 (by have := HTL.out; omega)).mono ?_
  intro e w5 hpp
  obtain ⟨b5, k2, a2, bb2, c2, d2, f2, g2, ok2, rfl, hE2, hO2, _⟩ := hpp.form
  obtain ⟨rfl, rfl, rfl, rfl, rfl, rfl, rfl⟩ := ev_inj (HE.out.trans hE2.symm)
  obtain rfl : ok = ok2 := HO.out.trans hO2.symm
  have HB5 := Lib.hid (HB4.out.trans (b5.mono HB4.out.size))
  have hs5 := b5.size
  replace x0 := keepB b5 x0; replace x1 := keepB b5 x1; replace x2 := keepB b5 x2; replace x3 := keepB b5 x3; replace x4 := keepB b5 x4; replace x5 := keepB b5 x5; replace x6 := keepB b5 x6
  clear hpp b5 hE2 hO2
  have hbd : Below w5.heap.size w5 (w5.alloc (.cells #[.int .i64 k', .int .i64 a', .int .i64 b', .int .i64 c', .int .i64 d', .int .i64 f', .int .i64 g'] 29)) := (Below.refl _ _).alloc (Nat.le_refl _) _
  have x_x0 := keepB hbd x0
  have x_x1 := keepB hbd x1
  have x_x2 := keepB hbd x2
  have x_x3 := keepB hbd x3
  have x_x4 := keepB hbd x4
  have x_x5 := keepB hbd x5
  have x_x6 := keepB hbd x6
  go_wp2_with fail
  clear hbd x_x0 x_x1 x_x2 x_x3 x_x4 x_x5 x_x6
  obtain ⟨w6, hw1⟩ : ∃ w6, w6 = w5.alloc (.cells #[.int .i64 k', .int .i64 a', .int .i64 b', .int .i64 c', .int .i64 d', .int .i64 f', .int .i64 g'] 29) := ⟨_, rfl⟩
  have y_0 : w6.cell? ⟨w5.heap.size, 0, none⟩ = some (.int .i64 k') := by rw [hw1]; go_simp
  have y_1 : w6.cell? ⟨w5.heap.size, 1, none⟩ = some (.int .i64 a') := by rw [hw1]; go_simp
  have y_2 : w6.cell? ⟨w5.heap.size, 2, none⟩ = some (.int .i64 b') := by rw [hw1]; go_simp
  have y_3 : w6.cell? ⟨w5.heap.size, 3, none⟩ = some (.int .i64 c') := by rw [hw1]; go_simp
  have y_4 : w6.cell? ⟨w5.heap.size, 4, none⟩ = some (.int .i64 d') := by rw [hw1]; go_simp
  have y_5 : w6.cell? ⟨w5.heap.size, 5, none⟩ = some (.int .i64 f') := by rw [hw1]; go_simp
  have y_6 : w6.cell? ⟨w5.heap.size, 6, none⟩ = some (.int .i64 g') := by rw [hw1]; go_simp
  have by_ : Below w5.heap.size w5 w6 := by rw [hw1]; exact (Below.refl _ _).alloc (Nat.le_refl _) _
  have zy_ : w5.heap.size < w6.heap.size := by rw [hw1]; simp
  have Hy_ := Lib.hid (show w6.heap[w5.heap.size]? = some (.cells #[.int .i64 k', .int .i64 a', .int .i64 b', .int .i64 c', .int .i64 d', .int .i64 f', .int .i64 g'] 29) by rw [hw1]; exact heap_alloc_new w5 _)
  rw [← hw1]
  clear hw1
  have HB6 := Lib.hid (HB5.out.trans (by_.mono HB5.out.size))
  have hs6 := by_.size
  replace x0 := keepB by_ x0; replace x1 := keepB by_ x1; replace x2 := keepB by_ x2; replace x3 := keepB by_ x3; replace x4 := keepB by_ x4; replace x5 := keepB by_ x5; replace x6 := keepB by_ x6
  clear by_ Hy_
  refine (equalEvent_same k' a' b' c' d' f' g' w6).mono ?_
  rintro e w7 ⟨rfl, b7⟩
  have HB7 := Lib.hid (HB6.out.trans (b7.mono HB6.out.size))
  have hs7 := b7.size
  replace x0 := keepB b7 x0; replace x1 := keepB b7 x1; replace x2 := keepB b7 x2; replace x3 := keepB b7 x3; replace x4 := keepB b7 x4; replace x5 := keepB b7 x5; replace x6 := keepB b7 x6; replace y_0 := keepB b7 y_0; replace y_1 := keepB b7 y_1; replace y_2 := keepB b7 y_2; replace y_3 := keepB b7 y_3; replace y_4 := keepB b7 y_4; replace y_5 := keepB b7 y_5; replace y_6 := keepB b7 y_6
  clear b7
  cases ok
  · have hb1 : (false != false) = false := rfl
    have hb2 : (false == false) = true := rfl
    clear HE HO HRG
    go_wp2_with fail
    refine (equalEvent_same k' a' b' c' d' f' g' w7).mono ?_
    rintro e w8 ⟨rfl, b8⟩
    have HB8 := Lib.hid (HB7.out.trans (b8.mono HB7.out.size))
    clear b8
    go_wp2
    go_ret
    exact ⟨rfl, HB8.out⟩
  obtain ⟨ev, hev⟩ : ∃ ev, ev = [k', a', b', c', d', f', g'] := ⟨_, rfl⟩
  have HEV := Lib.hid hev
  have HI := Lib.hid (show ∀ x ∈ ev, I64 x by rw [hev]; exact fun x hx => by have := HRG.out x hx; exact ⟨by omega, by omega⟩)
  have HFE := Lib.hid (show fmtE ev = T by
    have h1 := HE.out
    have h2 := HO.out
    rw [← hev] at h1
    cases h9 : parE T with
    | none => rw [h9] at h2; cases h2
    | some e9 => rw [h9] at h1; rw [show ev = e9 from h1]; exact fmt_par h9)
  have hb1 : (true != true) = false := rfl
  have hb2 : (true == true) = true := rfl
  have hzz : (zt.toList == zt.toList) = true := by simp
  clear hev HE HO HRG
  go_wp2_with fail
  refine (FormatEventI_any B k' a' b' c' d' f' g' w7 (HP.out.below HB7.out) ev HEV.out HI.out).mono ?_
  rw [HFE.out, ← HZ.out]
  rintro e w8 ⟨rfl, b8⟩
  have HB8 := Lib.hid (HB7.out.trans (b8.mono HB7.out.size))
  clear b8
  go_wp2
  go_ret
  exact ⟨rfl, HB8.out⟩
end Go.Proofs.YtlabekemifccaaaDoor
