/-
  Lemmas and contracts of single functions of this program, used by the proofs of its laws: what each call returns and what becomes of memory. Conditions: the hypotheses of each theorem.
-/
import Derived.Test.YtpimbibmlmjjpaaDrawP2
namespace Go.Proofs.Ytpimbibmlmjjpaa
open Go.RowKit

set_option maxRecDepth 100000 in
set_option maxHeartbeats 2000000 in
theorem DrawMovesFor_any (v : Value) (xs : List Int) (w : World) (h : Bytes w 0 w.heap.size v xs) :
    Calls Try.prog 43 #[v] w fun e w' => ∃ v' p u L, e = .returned (.tuple #[v', u]) ∧ DrawnP w w' v' p ∧ Ints w' w.heap.size w'.heap.size u L ∧ L.length ≤ 3 := by
  go_enter Try.func43, Try.ntmps43
  go_wp2_with fail
  refine (newReader_any _ _ _ h).mono ?_
  rintro e w1 ⟨r, rfl, hr1, hb1⟩
  have hlt := hr1.lt
  go_wp2_with fail
  refine (anyPile_any _ _ _ _ 30 _ hr1 (by omega) (by omega) (by omega)).mono ?_
  rintro e w2 ⟨v2, p, k2, s, rfl, ho2, hs2, hpl, htp, hr2, hk2, hgr2⟩
  have hb2 := hb1.trans (below_of_grown hgr2 (Nat.le_refl _) (by omega))
  have hsz2 := hgr2.size
  obtain ⟨A, c, rfl, hc, hm⟩ := ho2.form
  clear hgr2 hr1
  have hb3 : Below w2.heap.size w2 (w2.alloc (.cells #[] 3)) := (Below.refl _ _).alloc (Nat.le_refl _) _
  have hr3 := hr2.below hb3
  have hown3 := OwnI.empty w2 w2.heap.size 3 (Nat.le_refl _)
  go_wp2_with fail
  obtain ⟨w3, hw3⟩ : ∃ w3, w3 = w2.alloc (.cells #[] 3) := ⟨_, rfl⟩
  have hz1 : w3.heap.size ≤ w2.heap.size + 1 := by rw [hw3]; simp
  have hz2 : w2.heap.size + 1 ≤ w3.heap.size := by rw [hw3]; simp
  rw [← hw3] at hb3 hr3 hown3 ⊢
  clear hw3
  have hs23 := hb3.size
  refine (one_lit _ _ _ _ [2, 1, 3, 0] w3 _ _ (w2.heap.size + 1) hr3 (by omega) rfl rfl (by omega) (by simp) (by simp) (by unfold I64; simp)).mono ?_
  rintro e w4 ⟨n, rfl, hn, hr4, hgr4⟩
  have hn4 : 0 ≤ n ∧ n ≤ 3 := by simp only [List.mem_cons, List.not_mem_nil, or_false] at hn; omega
  obtain ⟨m, rfl⟩ := Int.eq_ofNat_of_zero_le hn4.1
  have hm3 : m ≤ 3 := by omega
  clear hn hn4
  have hgr24 := grown_trans (grown_below hb3 (some w.heap.size)) hgr4
  have hown4 := hown3.kept (.of_grown hgr4 (Nat.le_refl _) (.inl (by omega)))
  clear hown3 hr3 hgr4 hb3
  go_wp2_with fail
  go_loopw [6, 7, 8] (fun v n _ wr => ∃ (m' k' : Nat) (L : List Int), m' ≤ m ∧ n = .int .i64 m' ∧ OwnI wr w2.heap.size 3 v L ∧ L.length + m' ≤ 3 ∧ Rdr wr w.heap.size k' w.heap.size r ∧ k' ≤ 1000 - 100 * m' ∧ w2.grownBy wr (some w.heap.size)) (fun _ n _ _ => (intOf n).toNat)
  case atStart => exact ⟨m, k2 + 1, [], by omega, rfl, hown4, by simp; omega, hr4, by omega, hgr24⟩
  case round =>
    clear hown4 hr4 hgr24 hr2
    obtain ⟨m', k', L, hm', rfl, hown, hL, hrd, hk', hgr⟩ := hrel
    have hszr := hgr.size
    have hp := ho2.kept (.of_grown hgr hs2 (.inl (by omega)))
    obtain ⟨AL, cL, rfl, hcL, hmL⟩ := hown.form
    rcases Nat.eq_zero_or_pos m' with h0 | h0
    · have H0 := Lib.hid h0
      have hle : m' ≤ 0 := by omega
      clear h0
      go_wp2_with fail
      go_ret2
      refine ⟨_, p, _, L, rfl, ⟨s, hp.wide hb1.size (Nat.le_refl _), by omega, hpl, htp, hb2.trans (below_of_grown hgr (Nat.le_refl _) (by omega))⟩, hown.ints.wide (by omega) (Nat.le_refl _), by omega⟩
    · obtain ⟨q, rfl⟩ : ∃ q, m' = q + 1 := ⟨m' - 1, by omega⟩
      clear h0
      go_wp2_with fail
      refine (aLabel_any _ _ _ _ _ _ _ _ _ hrd hp.rows (by omega) (by omega) (by omega)).mono ?_
      rintro e w5 ⟨x, k5, rfl, hx, hr5, hk5, hgr5⟩
      have hown5 := hown.kept (.of_grown hgr5 (Nat.le_refl _) (.inl (by omega)))
      have hgr25 := grown_trans hgr hgr5
      clear hown hrd hgr hgr5 hp
      go_wp2_with fail
      refine (placeIn_any _ _ _ _ _ _ hown5.ints).mono ?_
      rintro e w' ⟨rfl, rfl⟩
      by_cases hpl0 : plc L x < 0
      · have hd : decide (plc L x < 0) = true := decide_eq_true hpl0
        clear hpl0
        go_wp2_with (at_builtin; refine wpList_appendI SlI _ rfl (.tmp 33) (.tmp 35) rfl _ w2.heap.size _ _ rfl rfl hown5 hx (by omega) (by have := hgr25.size; omega) ?_; intro v6 w6 hown6 hg6)
        go_roundw
        case rel =>
          refine ⟨q, k5, L ++ [x], by omega, by go_num, hown6, by simp; omega, hr5.kept (hg6.below.block _ (by omega)) (.of_below hg6.below (by omega)), by omega, ⟨hg6.below.os.trans hgr25.os, hg6.below.tape.trans hgr25.tape, hg6.below.output.trans hgr25.output, Nat.le_trans hgr25.size hg6.size, fun i hi hne => (hg6.below.block i hi).trans (hgr25.block i hi hne)⟩⟩
        case measure => simp [intOf] <;> omega
      · have hd : decide (plc L x < 0) = false := decide_eq_false hpl0
        clear hpl0
        go_wp2_with fail
        refine (pick_any _ _ _ _ 8 _ hr5 (by omega) (by omega)).mono ?_
        rintro e w6 ⟨z, rfl, hz, hr6, hon6⟩
        have hown6 := hown5.kept (hon6.kept (.inr (by omega)))
        have hgr26 := grown_trans hgr25 (grown_only hon6)
        clear hz hown5 hr5 hgr25 hon6
        by_cases hz0 : z = 0
        · have hd2 : (z == 0) = true := beq_t hz0
          clear hz0
          go_wp2_with (at_builtin; refine wpList_appendI SlI _ rfl (.tmp 33) (.tmp 35) rfl _ w2.heap.size _ _ rfl rfl hown6 hx (by omega) (by have := hgr26.size; omega) ?_; intro v7 w7 hown7 hg7)
          go_roundw
          case rel =>
            refine ⟨q, k5 + 1, L ++ [x], by omega, by go_num, hown7, by simp; omega, hr6.kept (hg7.below.block _ (by omega)) (.of_below hg7.below (by omega)), by omega, ⟨hg7.below.os.trans hgr26.os, hg7.below.tape.trans hgr26.tape, hg7.below.output.trans hgr26.output, Nat.le_trans hgr26.size hg7.size, fun i hi hne => (hg7.below.block i hi).trans (hgr26.block i hi hne)⟩⟩
          case measure => simp [intOf] <;> omega
        · have hd2 : (z == 0) = false := beq_f hz0
          clear hz0
          go_wp2_with fail
          go_roundw
          case rel => exact ⟨q, k5 + 1, L, by omega, by go_num, hown6, by omega, hr6, by omega, hgr26⟩
          case measure => simp [intOf] <;> omega

end Go.Proofs.Ytpimbibmlmjjpaa
