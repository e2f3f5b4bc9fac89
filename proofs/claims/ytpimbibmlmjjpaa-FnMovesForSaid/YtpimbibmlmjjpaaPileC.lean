/-
  Lemmas and contracts of single functions of this program, used by the proofs of its laws: what each call returns and what becomes of memory. Conditions: the hypotheses of each theorem.
-/
import Derived.Test.YtpimbibmlmjjpaaPileB
namespace Go.Proofs.Ytpimbibmlmjjpaa
open Go.RowKit

theorem cell_cases2 (p : List (List Int)) (r j : Nat) :
    (cell p r j = 0) ∨ (cell p r j < 0) ∨ (9999 < cell p r j) ∨ (0 < cell p r j ∧ cell p r j ≤ 9999 ∧ inL (seen p r j) (cell p r j) = true) ∨
    (0 < cell p r j ∧ cell p r j ≤ 9999 ∧ inL (seen p r j) (cell p r j) = false ∧ liesB p r j = false) ∨
    (0 < cell p r j ∧ cell p r j ≤ 9999 ∧ inL (seen p r j) (cell p r j) = false ∧ liesB p r j = true) := by
  by_cases h1 : cell p r j = 0
  · exact .inl h1
  · refine .inr ?_
    by_cases h2 : cell p r j < 0
    · exact .inl h2
    · refine .inr ?_
      by_cases h3 : 9999 < cell p r j
      · exact .inl h3
      · refine .inr ?_
        cases h4 : inL (seen p r j) (cell p r j)
        · refine .inr ?_
          cases h5 : liesB p r j
          · exact .inl ⟨by omega, by omega, rfl, rfl⟩
          · exact .inr ⟨by omega, by omega, rfl, rfl⟩
        · exact .inl ⟨by omega, by omega, rfl⟩

theorem RowOk.small {p : List (List Int)} {r : Nat} (h : RowOk p r) (h6 : (gr p 0).length ≤ 6) : (gr p r).length ≤ 6 := by have := h.1; omega
theorem vPile_big {p : List (List Int)} {r : Nat} (hlt : r < p.length) (h : 6 < (gr p r).length) : vPile p = false := by
  unfold vPile; simp; intro hv
  have := (hv.2.2 r hlt).1
  rcases hv.2.1 with h0 | h0 <;> omega

set_option maxRecDepth 100000 in
set_option maxHeartbeats 1600000 in
theorem ValidPile_any (lo hi : Nat) (v : Value) (p : List (List Int)) (w : World) (h : IRows w lo hi v p) (hhi : hi ≤ w.heap.size) (ht : tot p ≤ 1048576) :
    Calls Try.prog 35 #[v] w fun e w' => e = .returned (.bool (vPile p)) ∧ Below w.heap.size w w' := by
  obtain ⟨A, c, rfl, hc, hm⟩ := h.form
  by_cases h6 : p.length ≤ 6
  · go_enter Try.func35, Try.ntmps35
    go_wp2
    go_loopw [3, 13] (fun v i wr => ∃ r : Nat, r ≤ p.length ∧ i = .int .i64 r ∧ OwnI wr w.heap.size 3 v (labelsL (p.take r)) ∧ Below w.heap.size w wr ∧ Hid (∀ q, q < r → RowOk p q) ∧ (0 < r → (gr p 0).length ≤ 6)) (fun _ i _ => p.length - (intOf i).toNat)
    case atStart => exact ⟨0, by omega, rfl, OwnI.nil _ _ _, Below.refl _ _, fun q hq => absurd hq (by omega), fun h => absurd h (by omega)⟩
    case round =>
      obtain ⟨r, hk, rfl, hown, hb, HR, hz6⟩ := hrel
      by_cases hlt : r < p.length
      · have h' := h.below hb hhi
        obtain ⟨b, o, Ai, ci, rfl, hb1, hb2, hcell, hci, hmi, hi1⟩ := h'.row hlt
        have hshape : ((gr p r).length < 1) ∨ (6 < (gr p r).length) ∨ (1 ≤ (gr p r).length ∧ (gr p r).length ≤ 6 ∧ 0 < r ∧ (gr p r).length + 1 ≠ (gr p (r - 1)).length) ∨
            (1 ≤ (gr p r).length ∧ (gr p r).length ≤ 6 ∧ (0 < r → (gr p r).length + 1 = (gr p (r - 1)).length)) := by omega
        rcases hshape with hs | hs | ⟨hs1, hs2, hs3, hs4⟩ | ⟨hs1, hs2, hs3⟩
        · go_wp2
          go_ret
          exact ⟨ret_bool (vPile_row hlt fun hx => hx.2.1 (by omega)).symm, hb⟩
        · go_wp2
          go_ret
          exact ⟨ret_bool (vPile_big hlt hs).symm, hb⟩
        · obtain ⟨Az, cz, hcellz, hcz, hmz, _⟩ := h'.row' (show r - 1 < p.length by omega)
          have hne : (((gr p r).length : Int) != ((gr p (r - 1)).length : Int) - 1) = true := bne_t (by omega)
          have Hs := Lib.hid hs4
          clear hs4
          go_wp2
          go_ret
          exact ⟨ret_bool (vPile_row hlt fun hx => Hs.out (by have h1 := hx.1; have h2 := (HR.out (r - 1) (by omega)).1; omega)).symm, hb⟩
        · have Hs := Lib.hid (show (gr p r).length + r = (gr p 0).length ∧ (gr p r).length ≠ 0 ∧ (gr p 0).length ≤ 6 from by
            rcases Nat.eq_zero_or_pos r with h0 | h0
            · subst h0; exact ⟨by omega, by omega, by omega⟩
            · have h1 := (HR.out (r - 1) (by omega)).1
              have h2 := hs3 h0
              exact ⟨by omega, by omega, hz6 h0⟩)
          have Hs3 := Lib.hid hs3
          clear hs3
          have main : ∀ wo : World, Below w.heap.size w wo → True := fun _ _ => trivial
          clear main
          rcases Nat.eq_zero_or_pos r with h0 | h0
          all_goals
            obtain ⟨Az, cz, hcellz, hcz, hmz, _⟩ := h'.row' (show r - 1 < p.length by omega)
            have hne : (0 < r → (((gr p r).length : Int) != ((gr p (r - 1)).length : Int) - 1) = false) := fun h0 => bne_f (by have := Hs3.out h0; omega)
            have hr0 : r ≤ 0 ∨ 0 < r := by omega
            first
              | (have hne' := hne (by omega); clear hne hr0)
              | (have hr1 : r ≤ 0 := (by omega); clear hne hr0; have H0 := Lib.hid h0; clear h0)
            go_wp2
            try clear hne'
            obtain ⟨wo, rfl⟩ : ∃ wo : World, wo = wr := ⟨_, rfl⟩
            go_loopw [3, 44] (fun v i wr => ∃ j : Nat, j ≤ (gr p r).length ∧ i = .int .i64 j ∧ OwnI wr w.heap.size 3 v (seen p r j) ∧ Below w.heap.size w wr ∧ Hid (∀ q, q < j → CellOk p r q)) (fun _ i _ => (gr p r).length - (intOf i).toNat)
            case atStart => exact ⟨0, by omega, rfl, by rw [seen_zero]; exact hown, hb, fun q hq => absurd hq (by omega)⟩
            case round =>
              obtain ⟨j, hj, rfl, hown', hb', HC⟩ := hrel
              have hk' := (below_two hb hb').mono (Nat.zero_le lo) hhi
              have hcell' := hk'.cell hb1 hb2 hcell
              have hi' := hi1.kept hk'
              clear hown hcell hcellz
              by_cases hjt : j < (gr p r).length
              · obtain ⟨bi, oi, rfl, hbi, hbi2, hcelli, h64⟩ := hi'.cell hjt
                have hlen := seen_len hlt hj
                have Ht := Lib.hid (seen_succ (p := p) hjt)
                have Hstep := Lib.hid (fun (hx : CellOk p r j) (q : Nat) (hq : q < j + 1) => show CellOk p r q from by
                  rcases Nat.lt_or_ge q j with h' | h'
                  · exact HC.out q h'
                  · obtain rfl : q = j := by omega
                    exact hx)
                have hi3 := hown'.ints
                have hir := h.below hb' hhi
                have Hup : Hid (0 < r → j + 1 < (gr p (r - 1)).length) := fun h0 => by have := Hs3.out h0; omega
                rcases cell_cases2 p r j with hx | hx | hx | ⟨hx1, hx2, hx3⟩ | ⟨hx1, hx2, hx3, hx4⟩ | ⟨hx1, hx2, hx3, hx4⟩
                · have hx' : (gi (gr p r) j == 0) = true := beq_t hx
                  have Hx := Lib.hid hx
                  clear hx
                  go_wp2
                  go_roundw
                  case rel => exact ⟨j + 1, by omega, by go_num, by rw [Ht.out, if_neg (by have := Hx.out; omega)]; exact hown', hb', Hstep.out ⟨by have := Hx.out; omega, by have := Hx.out; omega, fun h => by have := Hx.out; omega⟩⟩
                  case measure => simp [intOf]; omega
                · unfold cell at hx
                  go_wp2
                  go_ret
                  exact ⟨ret_bool (vPile_cell hlt hjt fun hx' => by have := hx'.1; unfold cell at this; omega).symm, hb'⟩
                · unfold cell at hx
                  go_wp2
                  go_ret
                  exact ⟨ret_bool (vPile_cell hlt hjt fun hx' => by have := hx'.2.1; unfold cell at this; omega).symm, hb'⟩
                · have Hx3 := Lib.hid hx3
                  unfold cell at hx1 hx2 hx3
                  go_wp2_with (go_at_call 56; refine (contains_any _ _ _ _ _ _ hi3).mono ?_; rintro e w' ⟨rfl, rfl⟩)
                  go_ret
                  exact ⟨ret_bool (vPile_cell hlt hjt fun hx => by have := (hx.2.2 hx1).1; rw [Hx3.out] at this; cases this).symm, hb'⟩
                · have Hx4 := Lib.hid hx4
                  unfold cell at hx1 hx2 hx3
                  go_wp2_with (first | (go_at_call 56; refine (contains_any _ _ _ _ _ _ hi3).mono ?_; rintro e w' ⟨rfl, rfl⟩) | (go_at_call 63; refine (lies_any _ _ _ _ _ _ _ hir hlt Hup.out (by omega)).mono ?_; rintro e w' ⟨rfl, rfl⟩))
                  go_ret
                  exact ⟨ret_bool (vPile_cell hlt hjt fun hx => by have := (hx.2.2 hx1).2; rw [Hx4.out] at this; cases this).symm, hb'⟩
                · have Hx3 := Lib.hid hx3
                  have Hx4 := Lib.hid hx4
                  unfold cell at hx1 hx2 hx3
                  go_wp2_with (first | (go_at_call 56; refine (contains_any _ _ _ _ _ _ hi3).mono ?_; rintro e w' ⟨rfl, rfl⟩) | (go_at_call 63; refine (lies_any _ _ _ _ _ _ _ hir hlt Hup.out (by omega)).mono ?_; rintro e w' ⟨rfl, rfl⟩) | (at_builtin; refine wpList_appendI SlI _ rfl (.tmp 69) (.tmp 71) rfl _ w.heap.size _ _ rfl rfl hown' h64 (by omega) hb'.size ?_; intro v' w1 hown1 hg))
                  go_roundw
                  case rel => exact ⟨j + 1, by omega, by go_num, by rw [Ht.out, if_pos (show 0 < cell p r j from hx1)]; exact hown1, hb'.trans hg.below, Hstep.out ⟨by unfold cell; omega, hx2, fun _ => ⟨Hx3.out, Hx4.out⟩⟩⟩
                  case measure => simp [intOf]; omega
              · go_wp2
                go_roundw
                case rel => exact ⟨r + 1, by omega, by go_num, by rw [← seen_row hlt (i := j) (by omega)]; exact hown', hb', fun q hq => by
                  rcases Nat.lt_or_ge q r with h' | h'
                  · exact HR.out q h'
                  · obtain rfl : q = r := by omega
                    exact ⟨Hs.out.1, Hs.out.2.1, fun i hi => HC.out i (by omega)⟩, fun _ => Hs.out.2.2⟩
                case measure => simp [intOf]; omega
      · have Hv := Lib.hid (vPile_end (p := p) fun q hq => HR.out q (by omega))
        have Hz : Hid (p.length = 0 ∨ (gr p 0).length ≤ 6) := by
          rcases Nat.eq_zero_or_pos r with h0 | h0
          · exact .inl (by omega)
          · exact .inr (hz6 h0)
        clear hz6
        go_wp2
        go_ret
        exact ⟨ret_bool (by rw [Hv.out]; rcases Hz.out with h | h <;> simp [h6, h]), hb⟩
  · go_enter Try.func35, Try.ntmps35
    go_wp2
    go_ret
    refine ⟨ret_bool ?_, Below.refl _ _⟩
    unfold vPile; symm; simp; intro hv; exact absurd hv.1 h6
end Go.Proofs.Ytpimbibmlmjjpaa
