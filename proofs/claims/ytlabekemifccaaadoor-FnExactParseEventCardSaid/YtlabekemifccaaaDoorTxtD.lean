/-
  Lemmas and contracts of single functions of this program, used by the proofs of its laws: what each call returns and what becomes of memory. Conditions: the hypotheses of each theorem.
-/
import Derived.Test.YtlabekemifccaaaDoorTxtC
namespace Go.Proofs.YtlabekemifccaaaDoor
open Go.RowKit
attribute [local go_sem ↓] Go.wp_at_zero Go.wp_at_succ

theorem evN_kind {ev : List Int} (h : evN ev ≠ []) : 0 ≤ gi ev 0 ∧ gi ev 0 ≤ 3 := by
  rcases kind_cases (gi ev 0) with e | e | e | e | ⟨h0, h1, h2, h3⟩
  · omega
  · omega
  · omega
  · omega
  · exfalso; apply h; unfold evN idxK; rw [if_neg h0, if_neg h1, if_neg h2, if_neg h3]; rfl
set_option maxRecDepth 100000 in
set_option maxHeartbeats 2000000 in
theorem showEvent_any (k a l r f t g : Int) (w : World) (ev : List Int) (hev : ev = [k, a, l, r, f, t, g]) (hI : ∀ x ∈ ev, I64 x) :
    Calls Tryd.prog 36 #[.agg #[.int .i64 k, .int .i64 a, .int .i64 l, .int .i64 r, .int .i64 f, .int .i64 t, .int .i64 g]] w fun e w' => e = .returned (.string (TB (fmtE ev))) ∧ Below w.heap.size w w' := by
  obtain ⟨R, hR⟩ : ∃ R, R = fmtE ev := ⟨_, rfl⟩
  rw [← hR]
  have HR := Lib.hid hR
  have HEV := Lib.hid hev
  have HI := Lib.hid (show I64 a ∧ I64 l ∧ I64 r ∧ I64 f ∧ I64 t ∧ I64 g by
    subst hev
    exact ⟨hI a (by simp), hI l (by simp), hI r (by simp), hI f (by simp), hI t (by simp), hI g (by simp)⟩)
  have HK := Lib.hid (show gi ev 0 = k by rw [hev]; rfl)
  have HLN := Lib.hid (show (evN ev).length ≤ 6 by rw [evN_len]; exact idxK_len _)
  clear hR hev hI
  have Hs := Lib.hid (show ∃ w1, w1 = (w.alloc (.cells #[.int .i64 k, .int .i64 a, .int .i64 l, .int .i64 r, .int .i64 f, .int .i64 t, .int .i64 g] 29)) ∧ Below w.heap.size w w1 ∧ w1.cell? ⟨w.heap.size, 0, none⟩ = some (.int .i64 k) ∧ w1.cell? ⟨w.heap.size, 1, none⟩ = some (.int .i64 a) ∧ w1.cell? ⟨w.heap.size, 2, none⟩ = some (.int .i64 l) ∧ w1.cell? ⟨w.heap.size, 3, none⟩ = some (.int .i64 r) ∧ w1.cell? ⟨w.heap.size, 4, none⟩ = some (.int .i64 f) ∧ w1.cell? ⟨w.heap.size, 5, none⟩ = some (.int .i64 t) ∧ w1.cell? ⟨w.heap.size, 6, none⟩ = some (.int .i64 g) ∧ w.heap.size < w1.heap.size from by
    have hb : Below w.heap.size w (w.alloc (.cells #[.int .i64 k, .int .i64 a, .int .i64 l, .int .i64 r, .int .i64 f, .int .i64 t, .int .i64 g] 29)) := (Below.refl _ _).alloc (Nat.le_refl _) _
    exact ⟨_, rfl, hb, by go_simp, by go_simp, by go_simp, by go_simp, by go_simp, by go_simp, by go_simp, by simp⟩)
  go_enter Tryd.func36, Tryd.ntmps36
  go_wp2_with fail
  obtain ⟨w1, hw1, hb0, c00, c01, c02, c03, c04, c05, c06, hz⟩ := Hs.out
  rw [← hw1]
  clear hw1 Hs
  refine (numbersOfS_any k a l r f t g w1 HI.out).mono ?_
  rw [← HEV.out]
  rintro e w2 ⟨v2, rfl, hi2, b2⟩
  obtain ⟨A, c, rfl, hc, hm⟩ := hi2.form
  replace c00 := keepB b2 c00; replace c01 := keepB b2 c01; replace c02 := keepB b2 c02; replace c03 := keepB b2 c03; replace c04 := keepB b2 c04; replace c05 := keepB b2 c05; replace c06 := keepB b2 c06
  have HB2 := Lib.hid (hb0.trans (b2.mono (by omega)))
  have hz2 : w.heap.size < w2.heap.size := by have := b2.size; omega
  have HL := Lib.hid hi2
  clear hi2 b2 hb0 c01 c02 c03 c04 c05 c06
  obtain ⟨xs, hxs⟩ : ∃ xs, xs = evN ev := ⟨_, rfl⟩
  have HXS := Lib.hid hxs
  rw [← hxs] at HL HLN hc ⊢
  have hn6 : xs.length ≤ 6 := HLN.out
  clear hxs
  by_cases h0 : xs.length = 0
  · have e0 : ((xs.length : Int) == 0) = true := beq_t (by omega)
    have Hno := Lib.hid (show R = [] by
      have : xs = [] := List.eq_nil_of_length_eq_zero h0
      rw [HR.out]; unfold fmtE; rw [← HXS.out, this]
      have h9 : evN ev = [] := by rw [← HXS.out, this]
      have : wrd (gi ev 0) = [] := by
        rcases kind_cases (gi ev 0) with e | e | e | e | ⟨h0, h1, h2, h3⟩
        · unfold evN at h9; rw [e] at h9; simp [idxK] at h9
        · unfold evN at h9; rw [e] at h9; simp [idxK] at h9
        · unfold evN at h9; rw [e] at h9; simp [idxK] at h9
        · unfold evN at h9; rw [e] at h9; simp [idxK] at h9
        · unfold wrd; rw [if_neg h0, if_neg h1, if_neg h2, if_neg h3]
      rw [this]; simp [numsT])
    clear h0
    go_wp2
    go_ret
    exact ⟨by rw [Hno.out]; rfl, HB2.out⟩
  have e0 : ((xs.length : Int) == 0) = false := beq_f (by omega)
  have hkr := evN_kind (ev := ev) (by rw [← HXS.out]; intro e; rw [e] at h0; exact h0 rfl)
  rw [HK.out] at hkr
  clear h0
  go_wp2_with fail
  refine (allIn_any _ _ _ xs 0 999999 w2 HL.out).mono ?_
  rintro e x3 ⟨rfl, hx3⟩
  subst hx3
  cases y1 : allR 0 999999 xs
  · have Hno := Lib.hid (show R = [] by rw [HR.out]; unfold fmtE; rw [← HXS.out, y1]; rfl)
    go_wp2
    go_ret
    exact ⟨by rw [Hno.out]; rfl, HB2.out⟩
  have HALL := Lib.hid (allR_iff.1 y1)
  have Hyes := Lib.hid (show R = wrd k ++ numsT xs by rw [HR.out]; unfold fmtE; rw [← HXS.out, if_pos y1, HK.out])
  clear y1
  obtain ⟨kn, rfl⟩ := Int.eq_ofNat_of_zero_le hkr.1
  have hk4 : kn < 4 := by omega
  have k4 : (kn : Int) < 4 := by omega
  have k0 : (0 : Int) ≤ (kn : Int) := by omega
  have cd : w2.drew.cell? ⟨w.heap.size, 0, none⟩ = some (.int .i64 (kn : Int)) := c00
  obtain ⟨z0, hz0⟩ : ∃ z, z = TB (wrd (kn : Int)) := ⟨_, rfl⟩
  have hz0s : z0.size ≤ 6 := by rw [hz0, TB_size]; exact wrd_len _
  have HZ0 := Lib.hid hz0
  clear hz0
  go_wp2
  refine wp_region_held_drew (S := fun w' => w'.cell? ⟨w.heap.size, 0, none⟩ = some (.int .i64 ((kn : Int)))) (by kernel_rfl) ?_ (fun hHeld => ?_)
  · (first | (try dsimp only); go_keep | (first | exact keepB bx5 (by assumption) | exact keepB bx4 (by assumption) | exact keepB bx3 (by assumption) | exact keepB bx2 (by assumption) | exact keepB bx1 (by assumption) | exact keepO bo5 (by first | (simp; done) | (simp; omega)) (by assumption) | exact keepO bo4 (by first | (simp; done) | (simp; omega)) (by assumption) | exact keepO bo3 (by first | (simp; done) | (simp; omega)) (by assumption) | exact keepO bo2 (by first | (simp; done) | (simp; omega)) (by assumption) | exact keepO bo1 (by first | (simp; done) | (simp; omega)) (by assumption) | exact keepW bg2 (by first | (simp; done) | (simp; omega)) (by assumption) | exact keepW bg1 (by first | (simp; done) | (simp; omega)) (by assumption)))
  refine wpAnyH_take (i := 1) (oi := ⟨some 17, _, _, _, _, _⟩) (v := _) rfl (by kernel_rfl) (by kernel_rfl) (by kernel_rfl) (fun _ _ _ h => h) (Or.inl ⟨by kernel_rfl, by intro w hSw; (try dsimp only at hSw); go_simp; try with_reducible rfl⟩) (by assumption) ?_
  simp only [Act.put, List.setIfInBounds_toArray, List.set_cons_zero, List.set_cons_succ]
  refine wpAnyH_take (i := 2) (oi := ⟨some 18, _, _, _, _, _⟩) (v := _) rfl (by kernel_rfl) (by kernel_rfl) (by kernel_rfl) (fun _ _ _ h => h) (Or.inl ⟨by kernel_rfl, by intro w hSw; (try dsimp only at hSw); go_simp; try with_reducible rfl⟩) (by assumption) ?_
  simp only [Act.put, List.setIfInBounds_toArray, List.set_cons_zero, List.set_cons_succ]
  refine wpAnyH_ready (rs := [0]) (by kernel_rfl) (by simp) ?_
  refine AllReadyH.cons (o := ⟨some 16, _, _, _, _, _⟩) rfl (fun K hK => ?_) AllReadyH.nil
  go_simp
  go_at_call 69
  refine (eventWords_any _).mono ?_
  rintro e w3 ⟨rfl, b3, hws⟩
  have bx1 := of_drew b3
  have cw : w3.cell? ⟨w2.heap.size, kn, none⟩ = some (.string z0) := by rw [HZ0.out]; exact hws kn hk4
  have c0w := keepB bx1 c00
  clear hws
  go_wp2_with fail
  refine hK.out _ _ ?_ (fun hHeld2 => ?_)
  · (first | (try dsimp only); go_keep | (first | exact keepB bx5 (by assumption) | exact keepB bx4 (by assumption) | exact keepB bx3 (by assumption) | exact keepB bx2 (by assumption) | exact keepB bx1 (by assumption) | exact keepO bo5 (by first | (simp; done) | (simp; omega)) (by assumption) | exact keepO bo4 (by first | (simp; done) | (simp; omega)) (by assumption) | exact keepO bo3 (by first | (simp; done) | (simp; omega)) (by assumption) | exact keepO bo2 (by first | (simp; done) | (simp; omega)) (by assumption) | exact keepO bo1 (by first | (simp; done) | (simp; omega)) (by assumption) | exact keepW bg2 (by first | (simp; done) | (simp; omega)) (by assumption) | exact keepW bg1 (by first | (simp; done) | (simp; omega)) (by assumption)))
  clear hK K hHeld
  have hHeld := hHeld2
  clear hHeld2
  try simp only [Act.put, List.setIfInBounds_toArray, List.set_cons_zero, List.set_cons_succ]
  refine wpAnyH_take (i := 3) (oi := ⟨some 19, _, _, _, _, _⟩) (v := _) rfl (by kernel_rfl) (by kernel_rfl) (by kernel_rfl) (fun _ _ _ h => h) (Or.inl ⟨by kernel_rfl, by intro w hSw; (try dsimp only at hSw); go_simp; try with_reducible rfl⟩) (by assumption) ?_
  simp only [Act.put, List.setIfInBounds_toArray, List.set_cons_zero, List.set_cons_succ]
  refine wpAnyH_ready (rs := [4]) (by kernel_rfl) (by simp) ?_
  refine AllReadyH.cons (o := ⟨some 20, _, _, _, _, _⟩) rfl (fun K hK => ?_) AllReadyH.nil
  go_simp
  refine hK.out _ _ ?_ (fun hHeld2 => ?_)
  · (first | (try dsimp only); go_keep | (first | exact keepB bx5 (by assumption) | exact keepB bx4 (by assumption) | exact keepB bx3 (by assumption) | exact keepB bx2 (by assumption) | exact keepB bx1 (by assumption) | exact keepO bo5 (by first | (simp; done) | (simp; omega)) (by assumption) | exact keepO bo4 (by first | (simp; done) | (simp; omega)) (by assumption) | exact keepO bo3 (by first | (simp; done) | (simp; omega)) (by assumption) | exact keepO bo2 (by first | (simp; done) | (simp; omega)) (by assumption) | exact keepO bo1 (by first | (simp; done) | (simp; omega)) (by assumption) | exact keepW bg2 (by first | (simp; done) | (simp; omega)) (by assumption) | exact keepW bg1 (by first | (simp; done) | (simp; omega)) (by assumption)))
  clear hK K hHeld
  have hHeld := hHeld2
  clear hHeld2
  try simp only [Act.put, List.setIfInBounds_toArray, List.set_cons_zero, List.set_cons_succ]
  refine wpAnyH_take (i := 5) (oi := ⟨some 4, _, _, _, _, _⟩) (v := _) rfl (by kernel_rfl) (by kernel_rfl) (by kernel_rfl) (fun _ _ _ h => h) (Or.inl ⟨by kernel_rfl, by intro w hSw; (try dsimp only at hSw); go_simp; try with_reducible rfl⟩) (by assumption) ?_
  simp only [Act.put, List.setIfInBounds_toArray, List.set_cons_zero, List.set_cons_succ]
  refine wpAnyH_done (by kernel_rfl) ?_ _
  have HB3 := Lib.hid (HB2.out.trans ((of_drew b3).mono (by omega)))
  have HL3 := Lib.hid (HL.out.below (of_drew b3) (Nat.le_refl _))
  have hz3 : w2.heap.size ≤ w3.heap.size := b3.size
  clear b3 bx1 cw c0w cd c00 hHeld HL HB2
  go_wp2
  go_loopw [4, 5] (fun s i wr => ∃ (j : Nat) (z : ByteArray), j ≤ xs.length ∧ i = .int .i64 j ∧ s = .string z ∧ z.size ≤ 6 + 7 * j ∧ Hid (z = TB (wrd (kn : Int) ++ numsT (xs.take j))) ∧ wr = w3) (fun _ i _ => xs.length - (intOf i).toNat)
  case atStart => exact ⟨0, z0, Nat.zero_le _, rfl, rfl, by omega, by show _ = _; rw [HZ0.out]; simp [numsT], rfl⟩
  case round =>
    obtain ⟨j, z, hj, rfl, rfl, hzs, HZ, rfl⟩ := hrel
    by_cases hlt : j < xs.length
    rotate_left
    · have hnj : ¬ (j : Int) < (xs.length : Int) := by omega
      have HE := Lib.hid (show z = TB R by rw [HZ.out, Hyes.out, List.take_of_length_le (by omega)])
      go_wp2
      go_ret
      exact ⟨by rw [← HE.out]; rfl, HB3.out⟩
    obtain ⟨b, o, hA, _, _, cx, _⟩ := HL3.out.cell hlt
    subst hA
    have hxr := HALL.out j hlt
    have HX := Lib.hid (show xs.take (j + 1) = xs.take j ++ [gi xs j] from take_gi hlt)
    obtain ⟨x, hxe⟩ : ∃ x, x = gi xs j := ⟨_, rfl⟩
    rw [← hxe] at cx hxr HX
    obtain ⟨xn, rfl⟩ := Int.eq_ofNat_of_zero_le hxr.1
    have hdl := (dec_len (n := xn) (by omega)).2
    obtain ⟨D, hD⟩ : ∃ D, D = TB (Lib.decDigits xn) := ⟨_, rfl⟩
    have hDs : D.size ≤ 6 := by rw [hD, TB_size]; exact hdl
    have HDD := Lib.hid hD
    obtain ⟨z1, hz1⟩ : ∃ z1, z1 = z ++ (ByteArray.mk #[32]) := ⟨_, rfl⟩
    have hz1e : z ++ (ByteArray.mk #[32]) = z1 := hz1.symm
    have h32 : (ByteArray.mk #[32]).size = 1 := rfl
    have hz1s : z1.size ≤ 7 + 7 * j := by rw [hz1, ByteArray.size_append]; omega
    have hsa : z.size + (ByteArray.mk #[32]).size ≤ 9223372036854775807 := by omega
    obtain ⟨z2, hz2e⟩ : ∃ z2, z2 = z1 ++ D := ⟨_, rfl⟩
    have hz2e' : z1 ++ D = z2 := hz2e.symm
    have hz2s : z2.size ≤ 6 + 7 * (j + 1) := by rw [hz2e, ByteArray.size_append]; omega
    have hsb : z1.size + D.size ≤ 9223372036854775807 := by omega
    have HZ2 := Lib.hid (show z2 = TB (wrd (kn : Int) ++ numsT (xs.take (j + 1))) by
      rw [hz2e, hz1, HZ.out, hD, HX.out, numsT_snoc, show (ByteArray.mk #[32]) = TB [32] from rfl, TB_app, TB_app, List.append_assoc, List.append_assoc]; rfl)
    have j0 : (0 : Int) ≤ (j : Int) := by omega
    have j1 : (j : Int) < (xs.length : Int) := by omega
    clear hxe hD hz1 hz2e h32
    go_wp2_with fail
    refine (number_any xn xn _ (Nat.le_refl _) (by omega)).mono ?_
    rw [← HDD.out]
    rintro e w4 ⟨rfl, hw4⟩
    subst hw4
    go_wp2
    go_roundw
    case rel => exact ⟨j + 1, z2, hlt, by go_num, rfl, hz2s, HZ2.out, trivial⟩
    case measure => simp [intOf]; omega
end Go.Proofs.YtlabekemifccaaaDoor
