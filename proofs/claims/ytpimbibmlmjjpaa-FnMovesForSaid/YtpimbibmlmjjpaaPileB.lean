/-
  Lemmas and contracts of single functions of this program, used by the proofs of its laws: what each call returns and what becomes of memory. Conditions: the hypotheses of each theorem.
-/
import Derived.Test.YtpimbibmlmjjpaaPileA
namespace Go.Proofs.Ytpimbibmlmjjpaa
open Go.RowKit

theorem plcFrom_neg (xs : List Int) (n : Int) (k : Nat) : plcFrom xs n k < 0 ↔ inL xs n = false := by
  induction xs generalizing k with
  | nil => simp [plcFrom, inL]
  | cons x t ih =>
    rw [plcFrom, inL_cons]
    by_cases h : x = n
    · simp [h]
    · rw [if_neg h, ih]; simp [h]
theorem plc_neg {xs : List Int} {n : Int} (h : inL xs n = false) : plc xs n < 0 := (plcFrom_neg xs n 0).2 h
theorem plc_pos {xs : List Int} {n : Int} (h : inL xs n = true) : 0 ≤ plc xs n := by
  have := (plcFrom_neg xs n 0)
  unfold plc
  by_cases h' : plcFrom xs n 0 < 0
  · rw [this.1 h'] at h; cases h
  · omega

/-- one place of a pile, as the reference looks at it -/
theorem cell_cases (p : List (List Int)) (r j : Nat) :
    (¬ (0 ≤ cell p r j ∧ cell p r j ≤ 9999)) ∨ (cell p r j = 0) ∨ (0 < cell p r j ∧ cell p r j ≤ 9999 ∧ inL (seen p r j) (cell p r j) = true) ∨
    (0 < cell p r j ∧ cell p r j ≤ 9999 ∧ inL (seen p r j) (cell p r j) = false ∧ r = 0) ∨
    (0 < cell p r j ∧ cell p r j ≤ 9999 ∧ inL (seen p r j) (cell p r j) = false ∧ 0 < r ∧ (cell p (r - 1) j == 0) = true) ∨
    (0 < cell p r j ∧ cell p r j ≤ 9999 ∧ inL (seen p r j) (cell p r j) = false ∧ 0 < r ∧ (cell p (r - 1) j == 0) = false ∧ (cell p (r - 1) (j + 1) == 0) = true) ∨
    (0 < cell p r j ∧ cell p r j ≤ 9999 ∧ inL (seen p r j) (cell p r j) = false ∧ 0 < r ∧ (cell p (r - 1) j == 0) = false ∧ (cell p (r - 1) (j + 1) == 0) = false) := by
  by_cases h1 : 0 ≤ cell p r j ∧ cell p r j ≤ 9999
  · refine .inr ?_
    by_cases h2 : cell p r j = 0
    · exact .inl h2
    · refine .inr ?_
      have hp : 0 < cell p r j := by omega
      cases h3 : inL (seen p r j) (cell p r j)
      · refine .inr ?_
        rcases Nat.eq_zero_or_pos r with h4 | h4
        · exact .inl ⟨hp, h1.2, rfl, h4⟩
        · refine .inr ?_
          cases h5 : (cell p (r - 1) j == 0)
          · refine .inr ?_
            cases h6 : (cell p (r - 1) (j + 1) == 0)
            · exact .inr ⟨hp, h1.2, rfl, h4, rfl, rfl⟩
            · exact .inl ⟨hp, h1.2, rfl, h4, rfl, rfl⟩
          · exact .inl ⟨hp, h1.2, rfl, h4, rfl⟩
      · exact .inl ⟨hp, h1.2, rfl⟩
  · exact .inl h1

set_option maxRecDepth 100000 in
set_option maxHeartbeats 1600000 in
theorem validPile_any (lo hi : Nat) (v : Value) (p : List (List Int)) (w : World) (h : IRows w lo hi v p) (hhi : hi ≤ w.heap.size) (ht : tot p ≤ 1048576) :
    Calls Try.prog 46 #[v] w fun e w' => e = .returned (.bool (vPile p)) ∧ Below w.heap.size w w' := by
  obtain ⟨A, c, rfl, hc, hm⟩ := h.form
  go_enter Try.func46, Try.ntmps46
  go_wp2
  go_loopw [3, 4, 5, 6] (fun v i _ _ wr => ∃ r : Nat, r ≤ p.length ∧ i = .int .i64 r ∧ OwnI wr w.heap.size 3 v (labelsL (p.take r)) ∧ Below w.heap.size w wr ∧ Hid (∀ q, q < r → RowOk p q)) (fun _ i _ _ _ => p.length - (intOf i).toNat)
  case atStart => exact ⟨0, by omega, rfl, OwnI.empty _ _ _ (Nat.le_refl _), (Below.refl _ _).alloc (Nat.le_refl _) _, fun q hq => absurd hq (by omega)⟩
  case round =>
    obtain ⟨r, hk, rfl, hown, hb, HR⟩ := hrel
    by_cases hlt : r < p.length
    · have h' := h.below hb hhi
      obtain ⟨b, o, Ai, ci, rfl, hb1, hb2, hcell, hci, hmi, hi1⟩ := h'.row hlt
      obtain ⟨Az, cz, hcellz, hcz, hmz, _⟩ := h'.row' (show 0 < p.length by omega)
      rw [Nat.add_zero] at hcellz
      by_cases hs : (gr p r).length + r = (gr p 0).length ∧ (gr p r).length ≠ 0
      · have hs1 : (((gr p r).length : Int) != ((gr p 0).length : Int) - r) = false := bne_f (by omega)
        have hs2 : (((gr p r).length : Int) == 0) = false := beq_f (by omega)
        have hs3 : r ≤ (gr p 0).length := by omega
        have Hs := Lib.hid hs
        clear hs
        go_wp2
        go_quiet (fail)
        go_wp2
        clear hs1 hs2 hs3
        obtain ⟨wo, rfl⟩ : ∃ wo : World, wo = wr := ⟨_, rfl⟩
        go_loopw [3, 5, 6] (fun v i _ wr => ∃ j : Nat, j ≤ (gr p r).length ∧ i = .int .i64 j ∧ OwnI wr w.heap.size 3 v (seen p r j) ∧ Below w.heap.size w wr ∧ Hid (∀ q, q < j → CellOk p r q)) (fun _ i _ _ => (gr p r).length - (intOf i).toNat)
        case atStart => exact ⟨0, by omega, rfl, by rw [seen_zero]; exact hown.kept (fun _ _ _ => rfl), ⟨hb.os, hb.tape, hb.output, hb.size, hb.block⟩, fun q hq => absurd hq (by omega)⟩
        case round =>
          obtain ⟨j, hj, rfl, hown', hb', HC⟩ := hrel
          have hk' := (below_two hb hb').mono (Nat.zero_le lo) hhi
          have hcell' := hk'.cell hb1 hb2 hcell
          have hi' := hi1.kept hk'
          clear hown hcell hcellz
          by_cases hjt : j < (gr p r).length
          · obtain ⟨bi, oi, rfl, hbi, hbi2, hcelli, h64⟩ := hi'.cell hjt
            have hlen := seen_len hlt hj
            have Ht := Lib.hid (seen_succ (p := p) hjt)
            have Hlen := Lib.hid (show 0 < r → (gr p (r - 1)).length = (gr p r).length + 1 from fun h0 => by
              have h1 := (HR.out (r - 1) (by omega)).1
              have h2 := Hs.out.1
              omega)
            have Hstep := Lib.hid (fun (hx : CellOk p r j) (q : Nat) (hq : q < j + 1) => show CellOk p r q from by
              rcases Nat.lt_or_ge q j with h' | h'
              · exact HC.out q h'
              · obtain rfl : q = j := by omega
                exact hx)
            have hi3 := hown'.ints
            rcases cell_cases p r j with hx | hx | ⟨hx1, hx2, hx3⟩ | ⟨hx1, hx2, hx3, hr0⟩ | ⟨hx1, hx2, hx3, h0, hx5⟩ | ⟨hx1, hx2, hx3, h0, hx5, hx6⟩ | ⟨hx1, hx2, hx3, h0, hx5, hx6⟩
            · have hx' : inR 0 9999 (gi (gr p r) j) = false := inR_no hx
              have Hx := Lib.hid hx
              clear hx
              go_wp2_with (go_at_call 47; refine (inRange_any _ _ _ _).mono ?_; rintro e w' ⟨rfl, rfl⟩)
              go_ret
              exact ⟨ret_bool (vPile_cell hlt hjt fun hx => Hx.out ⟨hx.1, hx.2.1⟩).symm, hb'⟩
            · have hx' : inR 0 9999 (gi (gr p r) j) = true := inR_mk (by unfold cell at hx; omega)
              have hx4 : ¬ 0 < gi (gr p r) j := by unfold cell at hx; omega
              have Hx := Lib.hid hx
              clear hx
              go_wp2_with (go_at_call 47; refine (inRange_any _ _ _ _).mono ?_; rintro e w' ⟨rfl, rfl⟩)
              go_roundw
              case rel => exact ⟨j + 1, by omega, by go_num, by rw [Ht.out, if_neg (by have := Hx.out; omega)]; exact hown', hb', Hstep.out ⟨by have := Hx.out; omega, by have := Hx.out; omega, fun h => by have := Hx.out; omega⟩⟩
              case measure => simp [intOf]; omega
            · have hx' : inR 0 9999 (gi (gr p r) j) = true := inR_mk ⟨by unfold cell at hx1; omega, hx2⟩
              have hx4 : 0 < gi (gr p r) j := hx1
              have hp := plc_pos hx3
              have Hx3 := Lib.hid hx3
              clear hx3
              unfold cell at hp
              go_wp2_with (first | (go_at_call 47; refine (inRange_any _ _ _ _).mono ?_; rintro e w' ⟨rfl, rfl⟩) | (go_at_call 65; refine (placeIn_any _ _ _ _ _ _ hi3).mono ?_; rintro e w' ⟨rfl, rfl⟩))
              go_ret
              exact ⟨ret_bool (vPile_cell hlt hjt fun hx => by have := (hx.2.2 hx1).1; rw [Hx3.out] at this; cases this).symm, hb'⟩
            · have hx' : inR 0 9999 (gi (gr p r) j) = true := inR_mk ⟨by unfold cell at hx1; omega, hx2⟩
              have hx4 : 0 < gi (gr p r) j := hx1
              have hr1 : r ≤ 0 := by omega
              have Hr := Lib.hid hr0
              clear hr0
              have hp := plc_neg hx3
              have Hx3 := Lib.hid hx3
              clear hx3
              unfold cell at hp
              go_wp2_with (first | (go_at_call 47; refine (inRange_any _ _ _ _).mono ?_; rintro e w' ⟨rfl, rfl⟩) | (go_at_call 65; refine (placeIn_any _ _ _ _ _ _ hi3).mono ?_; rintro e w' ⟨rfl, rfl⟩) | (at_builtin; refine wpList_appendI SlI _ rfl (.tmp 92) (.tmp 94) rfl _ w.heap.size _ _ rfl rfl hown' h64 (by omega) hb'.size ?_; intro v' w1 hown1 hg))
              · go_roundw
                case rel => exact ⟨j + 1, by omega, by go_num, by rw [Ht.out, if_pos hx1]; exact hown1, hb'.trans hg.below, Hstep.out ⟨by omega, hx2, fun _ => ⟨Hx3.out, by simp [liesB, Hr.out]⟩⟩⟩
                case measure => simp [intOf]; omega
            · have hx' : inR 0 9999 (gi (gr p r) j) = true := inR_mk ⟨by unfold cell at hx1; omega, hx2⟩
              have hx4 : 0 < gi (gr p r) j := hx1
              have hp := plc_neg hx3
              have Hx3 := Lib.hid hx3
              clear hx3
              unfold cell at hp hx5
              have Hl := Hlen.out h0
              obtain ⟨Aj, cj, hcellp, hcj, hmj, hij⟩ := (h.below hb' hhi).row' (show r - 1 < p.length by omega)
              obtain ⟨bj, oj, rfl, hbj, hbj2, hcellq, _⟩ := hij.cell (show j < (gr p (r - 1)).length by omega)
              have hcellq2 := hij.cell' (show j + 1 < (gr p (r - 1)).length by omega)
              have Hij := Lib.hid hij
              clear hij
              go_wp2_with (first | (go_at_call 47; refine (inRange_any _ _ _ _).mono ?_; rintro e w' ⟨rfl, rfl⟩) | (go_at_call 65; refine (placeIn_any _ _ _ _ _ _ hi3).mono ?_; rintro e w' ⟨rfl, rfl⟩))
              go_ret
              exact ⟨ret_bool (vPile_cell hlt hjt fun hx => by have := (hx.2.2 hx1).2; simp [liesB, cell, hx5] at this; omega).symm, hb'⟩
            · have hx' : inR 0 9999 (gi (gr p r) j) = true := inR_mk ⟨by unfold cell at hx1; omega, hx2⟩
              have hx4 : 0 < gi (gr p r) j := hx1
              have hp := plc_neg hx3
              have Hx3 := Lib.hid hx3
              clear hx3
              unfold cell at hp hx5 hx6
              have Hl := Hlen.out h0
              obtain ⟨Aj, cj, hcellp, hcj, hmj, hij⟩ := (h.below hb' hhi).row' (show r - 1 < p.length by omega)
              obtain ⟨bj, oj, rfl, hbj, hbj2, hcellq, _⟩ := hij.cell (show j < (gr p (r - 1)).length by omega)
              have hcellq2 := hij.cell' (show j + 1 < (gr p (r - 1)).length by omega)
              have Hij := Lib.hid hij
              clear hij
              go_wp2_with (first | (go_at_call 47; refine (inRange_any _ _ _ _).mono ?_; rintro e w' ⟨rfl, rfl⟩) | (go_at_call 65; refine (placeIn_any _ _ _ _ _ _ hi3).mono ?_; rintro e w' ⟨rfl, rfl⟩))
              go_ret
              exact ⟨ret_bool (vPile_cell hlt hjt fun hx => by have := (hx.2.2 hx1).2; simp [liesB, cell, hx5, hx6] at this; omega).symm, hb'⟩
            · have hx' : inR 0 9999 (gi (gr p r) j) = true := inR_mk ⟨by unfold cell at hx1; omega, hx2⟩
              have hx4 : 0 < gi (gr p r) j := hx1
              have hp := plc_neg hx3
              have Hx3 := Lib.hid hx3
              clear hx3
              unfold cell at hp hx5 hx6
              have Hl := Hlen.out h0
              obtain ⟨Aj, cj, hcellp, hcj, hmj, hij⟩ := (h.below hb' hhi).row' (show r - 1 < p.length by omega)
              obtain ⟨bj, oj, rfl, hbj, hbj2, hcellq, _⟩ := hij.cell (show j < (gr p (r - 1)).length by omega)
              have hcellq2 := hij.cell' (show j + 1 < (gr p (r - 1)).length by omega)
              have Hij := Lib.hid hij
              clear hij
              go_wp2_with (first | (go_at_call 47; refine (inRange_any _ _ _ _).mono ?_; rintro e w' ⟨rfl, rfl⟩) | (go_at_call 65; refine (placeIn_any _ _ _ _ _ _ hi3).mono ?_; rintro e w' ⟨rfl, rfl⟩) | (at_builtin; refine wpList_appendI SlI _ rfl (.tmp 92) (.tmp 94) rfl _ w.heap.size _ _ rfl rfl hown' h64 (by omega) hb'.size ?_; intro v' w1 hown1 hg))
              · go_roundw
                case rel => exact ⟨j + 1, by omega, by go_num, by rw [Ht.out, if_pos hx1]; exact hown1, hb'.trans hg.below, Hstep.out ⟨by omega, hx2, fun _ => ⟨Hx3.out, by simp [liesB, cell, hx5, hx6]⟩⟩⟩
                case measure => simp [intOf]; omega
          · go_wp2
            go_roundw
            case rel => exact ⟨r + 1, by omega, by go_num, by rw [← seen_row hlt (i := j) (by omega)]; exact hown', hb', fun q hq => by
              rcases Nat.lt_or_ge q r with h' | h'
              · exact HR.out q h'
              · obtain rfl : q = r := by omega
                exact ⟨Hs.out.1, Hs.out.2, fun i hi => HC.out i (by omega)⟩⟩
            case measure => simp [intOf]; omega
      · have Hs := Lib.hid hs
        clear hs
        by_cases hs1 : (((gr p r).length : Int) != ((gr p 0).length : Int) - r) = true
        · go_wp2
          go_quiet (fail)
          go_wp2
          go_ret
          exact ⟨ret_bool (vPile_row hlt fun hx => Hs.out ⟨hx.1, hx.2.1⟩).symm, (hb.trans ((Qt.one _ _).below _))⟩
        · have hs2 : (((gr p r).length : Int) != ((gr p 0).length : Int) - r) = false := by simpa using hs1
          have hs3 : (((gr p r).length : Int) == 0) = true := by
            have := Hs.out
            have := of_bne_f hs2
            exact beq_t (by omega)
          clear hs1
          go_wp2
          go_quiet (fail)
          go_wp2
          go_ret
          exact ⟨ret_bool (vPile_row hlt fun hx => Hs.out ⟨hx.1, hx.2.1⟩).symm, (hb.trans ((Qt.one _ _).below _))⟩
    · have Hv := Lib.hid (vPile_end (p := p) fun q hq => HR.out q (by omega))
      by_cases h6 : p.length ≤ 6
      · rcases Nat.eq_zero_or_pos p.length with h0 | h0
        · have h0' : ((p.length : Int) == 0) = true := by simp [h0]
          have H0 := Lib.hid h0
          clear h0
          go_wp2
          go_ret
          exact ⟨ret_bool (by rw [Hv.out]; simp [H0.out]), hb⟩
        · have h0' : ((p.length : Int) == 0) = false := beq_f (by omega)
          have h' := h.below hb hhi
          obtain ⟨b, o, Ai, ci, rfl, hb1, hb2, hcell, hci, hmi, hi1⟩ := h'.row h0
          rw [Nat.add_zero] at hcell
          go_wp2
          go_ret
          exact ⟨ret_bool (by have e := Hv.out; rw [decide_eq_true h6, show decide (p.length = 0) = false from decide_eq_false (by omega), Bool.true_and, Bool.false_or] at e; rw [e]; exact decide_eq_decide.2 (by omega)), hb⟩
      · go_wp2
        go_ret
        exact ⟨ret_bool (by rw [Hv.out]; simp [h6]), hb⟩
end Go.Proofs.Ytpimbibmlmjjpaa
