/-
  Lemmas and contracts of single functions of this program, used by the proofs of its laws: what each call returns and what becomes of memory. Conditions: the hypotheses of each theorem.
-/
import Derived.Test.YtlabekemifccaaaDoorTxtB
import Derived.Test.YtlabekemifccaaaDoorPatA
import Derived.Test.YtlabekemifccaaaDoorShelf
import Derived.Lib.AppendIntMem
namespace Go.Proofs.YtlabekemifccaaaDoor
open Go.RowKit
attribute [local go_sem ↓] Go.wp_at_zero Go.wp_at_succ

/-- the table of powers stays where it is -/
def Pow (B : Nat) (w : World) : Prop := Lib.TabBelow Tryd.prog B w "internal/strconv.uint64pow10" .u64 Lib.pow10Tab ∧ B ≤ w.heap.size
theorem Pow.below {B : Nat} {w w' : World} (h : Pow B w) (b : Below w.heap.size w w') : Pow B w' := ⟨fun x hx => h.1 x ((b.mono h.2).trans hx), Nat.le_trans h.2 b.size⟩
theorem Itoa_any (B : Nat) (n : Int) (w : World) (hp : Pow B w) (h0 : 0 ≤ n) (h1 : n ≤ 999999) :
    Calls Tryd.prog 40 #[.int .i64 n] w fun e w' => e = .returned (.string (TB (Lib.decDigits n.toNat))) ∧ Below w.heap.size w w' := by
  refine (Tryd.strconv_Itoa n (by omega) (by omega) w hp.1.here).mono ?_
  rintro e w' ⟨rfl, k, os, rfl⟩
  refine ⟨?_, Lib.below_grow _ _ (Nat.le_refl _) _ _⟩
  have e : Lib.itoa n = Lib.decDigits n.toNat := by unfold Lib.itoa; rw [if_neg (by omega)]
  rw [e]; rfl
/-- the numbers in the text, each behind a space -/
def numsT (xs : List Int) : List UInt8 := xs.flatMap fun x => 32 :: Lib.decDigits x.toNat
theorem numsT_snoc (xs : List Int) (x : Int) : numsT (xs ++ [x]) = numsT xs ++ (32 :: Lib.decDigits x.toNat) := by simp [numsT]
/-- the text of an event -/
def fmtE (ev : List Int) : List UInt8 := if allR 0 999999 (evN ev) = true then wrd (gi ev 0) ++ numsT (evN ev) else []
theorem evN_len (ev : List Int) : (evN ev).length = (idxK (gi ev 0)).length := by simp [evN]
theorem idx_lt {k : Int} {j : Nat} (h : j < (idxK k).length) : (idxK k).getD j 0 < 7 := by
  rcases kind_cases k with rfl | rfl | rfl | rfl | ⟨h0, h1, h2, h3⟩
  · exact (by decide : ∀ j, j < 3 → [1, 3, 5].getD j 0 < 7) j h
  · exact (by decide : ∀ j, j < 6 → [1, 2, 3, 4, 5, 6].getD j 0 < 7) j h
  · exact (by decide : ∀ j, j < 5 → [1, 2, 3, 4, 5].getD j 0 < 7) j h
  · exact (by decide : ∀ j, j < 2 → [1, 6].getD j 0 < 7) j h
  · unfold idxK at h; rw [if_neg h0, if_neg h1, if_neg h2, if_neg h3] at h; exact absurd h (by simp)
theorem evN_gi {ev : List Int} {j : Nat} (h : j < (idxK (gi ev 0)).length) : gi (evN ev) j = gi ev ((idxK (gi ev 0)).getD j 0) := by
  unfold evN
  rw [gi_eq (by simpa using h)]
  simp [List.getD, h]
theorem wrd_len (k : Int) : (wrd k).length ≤ 6 := by
  rcases kind_cases k with rfl | rfl | rfl | rfl | ⟨h0, h1, h2, h3⟩
  · decide
  · decide
  · decide
  · decide
  · unfold wrd; rw [if_neg h0, if_neg h1, if_neg h2, if_neg h3]; simp
set_option maxRecDepth 100000 in
set_option maxHeartbeats 2000000 in
theorem FormatEventI_any (B : Nat) (k a l r f t g : Int) (w : World) (hp : Pow B w) (ev : List Int) (hev : ev = [k, a, l, r, f, t, g]) (hI : ∀ x ∈ ev, I64 x) :
    Calls Tryd.prog 13 #[.agg #[.int .i64 k, .int .i64 a, .int .i64 l, .int .i64 r, .int .i64 f, .int .i64 t, .int .i64 g]] w fun e w' => e = .returned (.string (TB (fmtE ev))) ∧ Below w.heap.size w w' := by
  obtain ⟨R, hR⟩ : ∃ R, R = fmtE ev := ⟨_, rfl⟩
  rw [← hR]
  have HR := Lib.hid hR
  have HEV := Lib.hid hev
  have HP := Lib.hid hp
  have HI := Lib.hid (show ∀ i, I64 (gi ev i) from fun i => by
    by_cases h : i < ev.length
    · rw [gi_eq h]; exact hI _ (List.getElem_mem h)
    · have : gi ev i = 0 := by unfold gi; rw [List.getD_eq_getElem?_getD, List.getElem?_eq_none (by omega)]; rfl
      rw [this]; exact ⟨by omega, by omega⟩)
  have hk : gi ev 0 = k := by rw [hev]; rfl
  have HK := Lib.hid hk
  clear hR hev hp hI hk
  have Hs := Lib.hid (show ∃ w1, w1 = (w.alloc (.cells #[.int .i64 k, .int .i64 a, .int .i64 l, .int .i64 r, .int .i64 f, .int .i64 t, .int .i64 g] 29)) ∧ Below w.heap.size w w1 ∧ w1.cell? ⟨w.heap.size, 0, none⟩ = some (.int .i64 k) ∧ w1.cell? ⟨w.heap.size, 1, none⟩ = some (.int .i64 a) ∧ w1.cell? ⟨w.heap.size, 2, none⟩ = some (.int .i64 l) ∧ w1.cell? ⟨w.heap.size, 3, none⟩ = some (.int .i64 r) ∧ w1.cell? ⟨w.heap.size, 4, none⟩ = some (.int .i64 f) ∧ w1.cell? ⟨w.heap.size, 5, none⟩ = some (.int .i64 t) ∧ w1.cell? ⟨w.heap.size, 6, none⟩ = some (.int .i64 g) ∧ w.heap.size < w1.heap.size from by
    have hb : Below w.heap.size w (w.alloc (.cells #[.int .i64 k, .int .i64 a, .int .i64 l, .int .i64 r, .int .i64 f, .int .i64 t, .int .i64 g] 29)) := (Below.refl _ _).alloc (Nat.le_refl _) _
    exact ⟨_, rfl, hb, by go_simp, by go_simp, by go_simp, by go_simp, by go_simp, by go_simp, by go_simp, by simp⟩)
  go_enter Tryd.func13, Tryd.ntmps13
  go_wp2_with fail
  obtain ⟨w1, hw1, hb0, c00, c01, c02, c03, c04, c05, c06, hz⟩ := Hs.out
  rw [← hw1]
  clear hw1 Hs
  refine (wordOf_any k w1).mono ?_
  rintro e x1 ⟨rfl, hx1⟩
  subst hx1
  have HB1 := Lib.hid hb0
  go_wp2_with fail
  refine (numbersOfI_any w.heap.size k w1 c00).mono ?_
  rintro e w2 ⟨A, rfl, b2, hcs⟩
  have HC := Lib.hid (show ∀ i, i < 7 → w2.cell? ⟨w.heap.size, i, none⟩ = some (.int .i64 (gi ev i)) from fun i hi => by
    have key : w1.cell? ⟨w.heap.size, i, none⟩ = some (.int .i64 (gi ev i)) := by
      rw [HEV.out]
      obtain rfl | rfl | rfl | rfl | rfl | rfl | rfl : i = 0 ∨ i = 1 ∨ i = 2 ∨ i = 3 ∨ i = 4 ∨ i = 5 ∨ i = 6 := by omega
      · exact c00
      · exact c01
      · exact c02
      · exact c03
      · exact c04
      · exact c05
      · exact c06
    exact keepB b2 key)
  have HCS := Lib.hid hcs
  have HB2 := Lib.hid (HB1.out.trans (b2.mono (by omega)))
  have hz2 : w.heap.size < w2.heap.size := by have := b2.size; omega
  obtain ⟨n, hn⟩ : ∃ n, n = (idxK k).length := ⟨_, rfl⟩
  have hn6 : n ≤ 6 := by rw [hn]; exact idxK_len k
  have HN := Lib.hid hn
  rw [← hn] at HCS ⊢
  clear hcs b2 hb0 c00 c01 c02 c03 c04 c05 c06 hn HB1
  have HW := Lib.hid (wrd_len k)
  go_wp2
  go_loopw [3, 5, 11] (fun s _ i wr => ∃ (j : Nat) (z : ByteArray), j ≤ n ∧ i = .int .i64 j ∧ s = .string z ∧ z.size ≤ 6 + 7 * j ∧ Hid (z = TB (wrd k ++ numsT ((evN ev).take j))) ∧ Hid (∀ i, i < j → 0 ≤ gi (evN ev) i ∧ gi (evN ev) i ≤ 999999) ∧ Hid (Below w2.heap.size w2 wr)) (fun _ _ i _ => n - (intOf i).toNat)
  case atStart => exact ⟨0, TB (wrd k), Nat.zero_le _, rfl, rfl, by rw [TB_size]; have := HW.out; omega, by show _ = _; simp [numsT], fun i hi => absurd hi (by omega), Below.refl _ _⟩
  case round =>
    obtain ⟨j, z, hj, rfl, rfl, hzs, HZ, HD, HB⟩ := hrel
    by_cases hlt : j < n
    rotate_left
    · have hnj : ¬ (j : Int) < (n : Int) := by omega
      have Hyes := Lib.hid (show z = TB R by
        rw [HZ.out, HR.out]
        have hl : (evN ev).length = n := by rw [evN_len, HK.out, HN.out]
        have hall : allR 0 999999 (evN ev) = true := allR_iff.2 fun i hi => HD.out i (by omega)
        unfold fmtE
        rw [if_pos hall, HK.out, List.take_of_length_le (by omega)])
      go_wp2
      go_ret
      exact ⟨by rw [← Hyes.out]; rfl, HB2.out.trans (HB.out.mono (by omega))⟩
    obtain ⟨gb, hA, hg1, hg2, cp⟩ := HCS.out j hlt
    subst hA
    have hp7 : (idxK k).getD j 0 < 7 := idx_lt (by rw [← HN.out]; exact hlt)
    have HX := Lib.hid (show gi (evN ev) j = gi ev ((idxK k).getD j 0) by have := evN_gi (ev := ev) (j := j) (by rw [HK.out, ← HN.out]; exact hlt); rw [HK.out] at this; exact this)
    obtain ⟨p, hpe⟩ : ∃ p, p = (idxK k).getD j 0 := ⟨_, rfl⟩
    rw [← hpe] at cp hp7 HX
    have cx := (HB.out.cell (show w.heap.size < w2.heap.size by omega)).trans (HC.out p hp7)
    have cq := (HB.out.cell (show gb < w2.heap.size by omega)).trans cp
    have hx64 := HI.out p
    obtain ⟨x, hxe⟩ : ∃ x, x = gi ev p := ⟨_, rfl⟩
    rw [← hxe] at cx HX hx64
    have j0 : (0 : Int) ≤ (j : Int) := by omega
    have j1 : (j : Int) < (n : Int) := by omega
    have HNO := Lib.hid (show ¬ (0 ≤ x ∧ x ≤ 999999) → R = [] from fun hno => by
      rw [HR.out]; unfold fmtE; rw [allR_no (i := j) (by rw [evN_len, HK.out, ← HN.out]; exact hlt) (by rw [HX.out]; exact hno)]; simp)
    clear hpe hxe cp
    by_cases y1 : x < 0
    · have Hno := Lib.hid (HNO.out fun h => by omega)
      go_wp2
      go_ret
      exact ⟨by rw [Hno.out]; rfl, HB2.out.trans (HB.out.mono (by omega))⟩
    by_cases y2 : 999999 < x
    · have Hno := Lib.hid (HNO.out fun h => by omega)
      go_wp2
      go_ret
      exact ⟨by rw [Hno.out]; rfl, HB2.out.trans (HB.out.mono (by omega))⟩
    have hdl := (dec_len (n := x.toNat) (by omega)).2
    obtain ⟨D, hD⟩ : ∃ D, D = TB (Lib.decDigits x.toNat) := ⟨_, rfl⟩
    have hDs : D.size ≤ 6 := by rw [hD, TB_size]; exact hdl
    have HDD := Lib.hid hD
    obtain ⟨D2, hD2⟩ : ∃ D2, D2 = (ByteArray.mk #[32]) ++ D := ⟨_, rfl⟩
    have hD2s : D2.size ≤ 7 := by rw [hD2, ByteArray.size_append]; have : (ByteArray.mk #[32]).size = 1 := rfl; omega
    have hD2e : (ByteArray.mk #[32]) ++ D = D2 := hD2.symm
    have HD2 := Lib.hid (show D2 = TB (32 :: Lib.decDigits x.toNat) by rw [hD2, hD]; exact TB_app [32] _)
    have hsp : (ByteArray.mk #[32]).size + D.size ≤ 9223372036854775807 := by have : (ByteArray.mk #[32]).size = 1 := rfl; omega
    have hsum : z.size + D2.size ≤ 9223372036854775807 := by omega
    obtain ⟨z2, hz2e⟩ : ∃ z2, z2 = z ++ D2 := ⟨_, rfl⟩
    have hz2e' : z ++ D2 = z2 := hz2e.symm
    have hz2s : z2.size ≤ 6 + 7 * (j + 1) := by rw [hz2e, ByteArray.size_append]; omega
    have HZ2 := Lib.hid (show z2 = TB (wrd k ++ numsT ((evN ev).take (j + 1))) by
      rw [hz2e, HZ.out, HD2.out, TB_app, take_gi (by rw [evN_len, HK.out, ← HN.out]; exact hlt), numsT_snoc, HX.out, List.append_assoc])
    have HD3 := Lib.hid (show ∀ i, i < j + 1 → 0 ≤ gi (evN ev) i ∧ gi (evN ev) i ≤ 999999 from fun i hi => by
      rcases Nat.lt_or_ge i j with h' | h'
      · exact HD.out i h'
      · obtain rfl : i = j := by omega
        rw [HX.out]; omega)
    clear hD hD2 hz2e hzs hdl HNO
    go_wp2_with fail
    refine (Itoa_any B x _ ((HP.out.below HB2.out).below HB.out) (by omega) (by omega)).mono ?_
    rw [← HDD.out]
    rintro e w4 ⟨rfl, b4⟩
    have HB4 := Lib.hid (HB.out.trans (b4.mono HB.out.size))
    clear b4
    go_wp2
    go_roundw
    case rel => exact ⟨j + 1, z2, hlt, by go_num, rfl, hz2s, HZ2.out, HD3.out, HB4.out⟩
    case measure => simp [intOf]; omega
theorem eventWords_any (w : World) : Calls Tryd.prog 69 #[] w fun e w' => e = .returned (.slice (some ⟨w.heap.size, 0, none⟩) 4 4) ∧ Below w.heap.size w w' ∧ ∀ j, j < 4 → w'.cell? ⟨w.heap.size, j, none⟩ = some (.string (TB (wrd (j : Int)))) := by
  go_enter Tryd.func69, Tryd.ntmps69
  go_wp2
  go_ret
  refine ⟨rfl, (Below.refl _ _).alloc (Nat.le_refl _) _, fun j hj => ?_⟩
  obtain rfl | rfl | rfl | rfl : j = 0 ∨ j = 1 ∨ j = 2 ∨ j = 3 := by omega
  · go_simp; rfl
  · go_simp; rfl
  · go_simp; rfl
  · go_simp; rfl
end Go.Proofs.YtlabekemifccaaaDoor
