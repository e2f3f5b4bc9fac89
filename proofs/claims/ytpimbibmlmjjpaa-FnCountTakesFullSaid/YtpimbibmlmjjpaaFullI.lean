/-
  Lemmas and contracts of single functions of this program, used by the proofs of its laws: what each call returns and what becomes of memory. Conditions: the hypotheses of each theorem.
-/
import Derived.Test.YtpimbibmlmjjpaaFull
namespace Go.Proofs.Ytpimbibmlmjjpaa
open Go.RowKit

set_option maxHeartbeats 800000 in
theorem FullPile_any (n : Int) (w : World) :
    Calls Try.prog 37 #[.int .i64 n] w fun e w' => ∃ v', e = .returned v' ∧ OwnR w' w.heap.size w'.heap.size 26 3 v' (if inR 0 6 n = true then fullL n.toNat else []) ∧ Below w.heap.size w w' := by
  cases hr : inR 0 6 n
  · have h := inR_false hr
    by_cases h0 : n < 0
    · have hd : decide (n < 0) = true := decide_eq_true h0
      clear hr h
      go_enter Try.func37, Try.ntmps37
      go_wp2
      go_ret
      exact ⟨_, rfl, OwnR.nil _ _ _ _ _, Below.refl _ _⟩
    · have hd : decide (n < 0) = false := decide_eq_false h0
      have hd2 : decide (6 < n) = true := decide_eq_true (by omega)
      clear hr h
      go_enter Try.func37, Try.ntmps37
      go_wp2
      go_ret
      exact ⟨_, rfl, OwnR.nil _ _ _ _ _, Below.refl _ _⟩
  · obtain ⟨h0, h6⟩ := inR_true hr
    obtain ⟨m, rfl⟩ := Int.eq_ofNat_of_zero_le h0
    rw [Int.toNat_natCast]
    rw [if_pos rfl]
    have hm6 : m ≤ 6 := by omega
    have hd : decide ((m : Int) < 0) = false := decide_eq_false (by omega)
    have hd2 : decide (6 < (m : Int)) = false := decide_eq_false (by omega)
    clear hr
    go_enter Try.func37, Try.ntmps37
    go_wp2
    clear hd hd2
    go_loopw [3, 4, 15, 5, 6, 7] (fun v l i _ _ _ wr => ∃ (r lab : Nat) (D : List (List Int)), r ≤ m ∧ i = .int .i64 r ∧ l = .int .i64 lab ∧ lab ≤ 6 * r ∧ D.length ≤ r ∧ OwnR wr w.heap.size wr.heap.size 26 3 v D ∧ Below w.heap.size w wr ∧ Hid (fullL m = D ++ fullGo lab (m - r))) (fun _ _ i _ _ _ _ => m - (intOf i).toNat)
    case atStart => exact ⟨0, 0, [], by omega, rfl, rfl, by omega, by simp, OwnR.nil _ _ _ _ _, Below.refl _ _, rfl⟩
    case round =>
      obtain ⟨r, lab, D, hk, rfl, rfl, hlab, hD, hown, hb, HF⟩ := hrel
      by_cases hlt : r < m
      · obtain ⟨q, hq⟩ : ∃ q, q = m - r := ⟨_, rfl⟩
        have e1 : (m : Int) - (r : Int) = (q : Int) := by omega
        have Hq := Lib.hid hq
        have hq6 : q ≤ 6 := by omega
        clear hq
        obtain ⟨wo, rfl⟩ : ∃ wo : World, wo = wr := ⟨_, rfl⟩
        have hbs := hb.size
        go_wp2_with (at_make; refine wpList_makeI SlI _ rfl _ _ rfl wo.heap.size q rfl rfl (by omega) (Nat.le_refl _) ?_; intro w1 ho1 hb1 hs1)
        clear e1
        have hown1 := hown.kept (.of_below hb1 (Nat.le_refl _))
        clear hown
        go_loopw [4, 24, 7] (fun l i _ wr => ∃ j : Nat, j ≤ q ∧ i = .int .i64 j ∧ l = .int .i64 ((lab + j : Nat) : Int) ∧ OwnI wr wo.heap.size 3 (.slice (some ⟨wo.heap.size, 0, none⟩) q q) (upL (lab + 1) j ++ (List.replicate q 0).drop j) ∧ Below wo.heap.size w1 wr) (fun _ i _ _ => q - (intOf i).toNat)
        case atStart => exact ⟨0, by omega, rfl, rfl, by simpa [upL] using ho1, Below.refl _ _⟩
        case round =>
          obtain ⟨j, hj, rfl, rfl, ho, hb'⟩ := hrel
          have hbs' := hb'.size
          by_cases hjt : j < q
          · obtain ⟨z, hz⟩ : ∃ z, z = lab + j := ⟨_, rfl⟩
            have Hz := Lib.hid hz
            have hz1 : z ≤ 100 := by omega
            rw [← hz]
            clear hz
            have hul := upL_len (lab + 1) j
            obtain ⟨g, hg, _, _, hc1, hf1, hst⟩ := ho.at_ (i := j) (by rw [List.length_append, hul, List.length_drop, List.length_replicate]; omega)
            simp only [Option.some.injEq, Addr.mk.injEq, and_true] at hg
            subst hg
            have Hst := Lib.hid (hst ((z : Int) + 1) ⟨by omega, by omega⟩)
            clear hst hul
            go_wp2
            go_roundw
            case rel =>
              refine ⟨j + 1, by omega, by go_num, by rw [show lab + (j + 1) = z + 1 by rw [Hz.out]; omega]; go_num, ?_, hb'.setCell (Nat.le_refl _) _⟩
              have h1 := Hst.out
              rw [show ((z : Int) + 1) = ((lab + 1 + j : Nat) : Int) by rw [Hz.out]; omega] at h1 ⊢
              rw [upL_set (lab + 1) _ j (by rw [List.length_replicate]; exact hjt)] at h1
              exact h1
            case measure => simp [intOf]; omega
          · have He := Lib.hid (show j = q by omega)
            have ho2 : OwnI wr wo.heap.size 3 (.slice (some ⟨wo.heap.size, 0, none⟩) q q) (upL (lab + 1) q) := by
              rw [He.out] at ho
              rw [List.drop_eq_nil_of_le (by simp)] at ho
              simpa using ho
            have hon' := hown1.kept (.of_below hb' (Nat.le_refl _))
            have hs2 : wo.heap.size ≤ wr.heap.size := by omega
            clear ho hown1
            go_wp2_with (at_builtin; refine wpList_appendR SlR (by decide) _ rfl (.tmp 34) (.tmp 36) rfl _ _ _ w.heap.size wo.heap.size _ _ (upL (lab + 1) q) rfl rfl hon' ho2 (by omega) hbs hs2 ?_; intro v2 w2 hown2 hg2)
            go_roundw
            case rel =>
              refine ⟨r + 1, lab + j, D ++ [upL (lab + 1) q], by omega, by go_num, rfl, by have := He.out; omega, by simp; omega, hown2, hb.trans (((hb1.trans hb').mono hbs).trans hg2.below), ?_⟩
              have := HF.out
              rw [show m - r = (m - (r + 1)) + 1 by omega, fullGo] at this
              rw [He.out, Hq.out, show m - r = (m - (r + 1)) + 1 by omega]
              show fullL m = _
              rw [this, List.append_assoc]; rfl
            case measure => simp [intOf]; omega
      · have He := Lib.hid (show r = m by omega)
        go_wp2
        go_ret
        refine ⟨_, rfl, ?_, hb⟩
        rw [HF.out, He.out, Nat.sub_self, fullGo, List.append_nil]
        exact hown
end Go.Proofs.Ytpimbibmlmjjpaa
