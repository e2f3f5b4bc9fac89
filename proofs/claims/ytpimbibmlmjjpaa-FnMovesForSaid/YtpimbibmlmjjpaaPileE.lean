/-
  Lemmas and contracts of single functions of this program, used by the proofs of its laws: what each call returns and what becomes of memory. Conditions: the hypotheses of each theorem.
-/
import Derived.Test.YtpimbibmlmjjpaaPileD
import Derived.Test.YtpimbibmlmjjpaaOwn
namespace Go.Proofs.Ytpimbibmlmjjpaa
open Go.RowKit

theorem copyInts_any (lo hi : Nat) (v : Value) (xs : List Int) (w : World) (h : Ints w lo hi v xs) (hhi : hi ≤ w.heap.size) (hl : xs.length ≤ 1099511627776) :
    Calls Try.prog 71 #[v] w fun e w' => ∃ v', e = .returned v' ∧ OwnI w' w.heap.size 3 v' xs ∧ Below w.heap.size w w' := by
  obtain ⟨A, c, rfl, hc, hm⟩ := h.form
  have h2 : Ints (w.alloc (.cells #[] 3)) lo hi (.slice A xs.length c) xs := h.kept fun k _ hk => Below.heap_alloc w _ k (by omega)
  go_enter Try.func71, Try.ntmps71
  go_wp2_with (at_builtin; refine wpList_appendIs SlI _ rfl (.tmp 3) (.tmp 4) rfl _ _ _ w.heap.size _ [] _ rfl rfl (OwnI.empty _ _ _ (Nat.le_refl _)) h2 (by simpa using hl) (by simp) ?_; intro v' w1 hown1 hg)
  go_ret
  exact ⟨_, rfl, by simpa using hown1, ((Below.refl _ _).alloc (Nat.le_refl _) _).trans hg.below⟩

set_option maxHeartbeats 400000 in
theorem copyRows_any (lo hi : Nat) (v : Value) (p : List (List Int)) (w : World) (h : IRows w lo hi v p) (hhi : hi ≤ w.heap.size) (ht : tot p ≤ 1048576) (hpl : p.length ≤ 1048576) :
    Calls Try.prog 64 #[v] w fun e w' => ∃ v', e = .returned v' ∧ OwnR w' w.heap.size w'.heap.size 26 3 v' p ∧ Below w.heap.size w w' := by
  obtain ⟨A, c, rfl, hc, hm⟩ := h.form
  go_enter Try.func64, Try.ntmps64
  go_wp2
  go_loopw [3, 4] (fun v i wr => ∃ k : Nat, k ≤ p.length ∧ i = .int .i64 k ∧ OwnR wr w.heap.size wr.heap.size 26 3 v (p.take k) ∧ Below w.heap.size w wr) (fun _ i _ => p.length - (intOf i).toNat)
  case atStart => exact ⟨0, by omega, rfl, by simpa using OwnR.empty w w.heap.size 26 3 (Nat.le_refl _), (Below.refl _ _).alloc (Nat.le_refl _) _⟩
  case round =>
    obtain ⟨k, hk, rfl, hown, hb⟩ := hrel
    by_cases hlt : k < p.length
    · obtain ⟨b, o, Ai, ci, rfl, hb2, hb3, hcell, hci, hmi, hi1⟩ := (h.below hb hhi).row hlt
      have hlen := tot_take hlt
      have hbs := hb.size
      have Ht := Lib.hid (take_gr hlt)
      have hkl : (p.take k).length ≤ 1048576 := by rw [List.length_take]; omega
      go_wp2_with (first | (go_at_call 71; refine (copyInts_any _ _ _ _ _ hi1 (by omega) (by omega)).mono ?_; rintro e w1 ⟨v', rfl, ho1, hb1⟩; obtain ⟨A1, c1, rfl, _, _⟩ := ho1.form; have hbs1 := hb1.size) | (at_builtin; refine wpList_appendR SlR (by decide) _ rfl (.tmp 12) (.tmp 18) rfl _ _ _ w.heap.size wr.heap.size _ _ (gr p k) rfl rfl (hown.kept (.of_below hb1 (Nat.le_refl _))) ho1 (by omega) hbs hbs1 ?_; intro v2 w2 hown2 hg2))
      go_roundw
      case rel => exact ⟨k + 1, by omega, by go_num, by rw [Ht.out]; exact hown2, hb.trans ((hb1.mono hbs).trans hg2.below)⟩
      case measure => simp [intOf]; omega
    · go_wp2
      go_ret
      have e : k = p.length := by omega
      exact ⟨_, rfl, by simpa [e] using hown, hb⟩

set_option maxHeartbeats 400000 in
theorem clonePile_any (lo hi : Nat) (v : Value) (p : List (List Int)) (w : World) (h : IRows w lo hi v p) (hhi : hi ≤ w.heap.size) (ht : tot p ≤ 1048576) (hpl : p.length ≤ 1048576) :
    Calls Try.prog 55 #[v] w fun e w' => ∃ v', e = .returned v' ∧ OwnR w' w.heap.size w'.heap.size 26 3 v' p ∧ Below w.heap.size w w' := by
  obtain ⟨A, c, rfl, hc, hm⟩ := h.form
  go_enter Try.func55, Try.ntmps55
  go_wp2
  go_loopw [3, 8] (fun v i wr => ∃ k : Nat, k ≤ p.length ∧ i = .int .i64 k ∧ OwnR wr w.heap.size wr.heap.size 26 3 v (p.take k) ∧ Below w.heap.size w wr) (fun _ i _ => p.length - (intOf i).toNat)
  case atStart => exact ⟨0, by omega, rfl, OwnR.nil _ _ _ _ _, Below.refl _ _⟩
  case round =>
    obtain ⟨k, hk, rfl, hown, hb⟩ := hrel
    by_cases hlt : k < p.length
    · obtain ⟨b, o, Ai, ci, rfl, hb2, hb3, hcell, hci, hmi, hi1⟩ := (h.below hb hhi).row hlt
      have hlen := tot_take hlt
      have hbs := hb.size
      have Ht := Lib.hid (take_gr hlt)
      have hkl : (p.take k).length ≤ 1048576 := by rw [List.length_take]; omega
      go_wp2_with (first | (go_at_call 69; refine (clone_any _ _ _ _ _ hi1 (by omega)).mono ?_; rintro e w1 ⟨v', rfl, ho1, hb1⟩; obtain ⟨A1, c1, rfl, _, _⟩ := ho1.form; have hbs1 := hb1.size) | (at_builtin; refine wpList_appendR SlR (by decide) _ rfl (.tmp 12) (.tmp 15) rfl _ _ _ w.heap.size wr.heap.size _ _ (gr p k) rfl rfl (hown.kept (.of_below hb1 (Nat.le_refl _))) ho1 (by omega) hbs hbs1 ?_; intro v2 w2 hown2 hg2))
      go_roundw
      case rel => exact ⟨k + 1, by omega, by go_num, by rw [Ht.out]; exact hown2, hb.trans ((hb1.mono hbs).trans hg2.below)⟩
      case measure => simp [intOf]; omega
    · go_wp2
      go_ret
      have e : k = p.length := by omega
      exact ⟨_, rfl, by simpa [e] using hown, hb⟩

set_option maxRecDepth 100000 in
set_option maxHeartbeats 1000000 in
theorem AboveOf_any (lo hi : Nat) (v : Value) (p : List (List Int)) (n : Int) (w : World) (h : IRows w lo hi v p) (hhi : hi ≤ w.heap.size) (ht : tot p ≤ 1048576) :
    Calls Try.prog 15 #[v, .int .i64 n] w fun e w' => ∃ v', e = .returned v' ∧ OwnI w' w.heap.size 3 v' (abvL p n) ∧ Below w.heap.size w w' := by
  obtain ⟨A, c, rfl, hc, hm⟩ := h.form
  by_cases hF : 0 ≤ FR p n
  · obtain ⟨row, at_, hR, hC, hrow, hati, hcel, HV0, hn1, hn2⟩ := FR_spec hF
    have HV := Lib.hid HV0
    have hpl : p.length ≤ 6 := HV0.1
    have hat6 : at_ ≤ 6 := by
      have h1 := (HV0.2.2 row hrow).1
      rcases HV0.2.1 with h2 | h2 <;> omega
    have Habv := Lib.hid (show abvL p n = aboveL p row at_ by rw [abvL, if_pos hF, hR, hC]; rfl)
    have hall := aboveL_len (at_ := at_) hrow
    clear hcel HV0 hF
    go_enter Try.func15, Try.ntmps15
    go_wp2_with (go_at_call 18; refine (FindRoll_any _ _ _ _ _ _ h hhi ht).mono ?_; rw [hR, hC]; rintro e w1 ⟨rfl, hb1⟩)
    clear hR hC
    have hbs1 := hb1.size
    go_loopw [7, 8, 9, 10, 11] (fun v i _ _ _ wr => ∃ (m : Nat) (L : List Int), row + 1 + m ≤ p.length ∧ i = .int .i64 ((row : Int) + m) ∧ OwnI wr w.heap.size 3 v L ∧ Below w.heap.size w wr ∧ Hid (aboveL p row at_ = L ++ coneGo p row at_ 1 m)) (fun _ i _ _ _ _ => (intOf i - row).toNat)
    case atStart => exact ⟨p.length - row - 1, [], by omega, by go_num, OwnI.nil _ _ _, hb1, rfl⟩
    case round =>
      obtain ⟨m, L, hk, rfl, hown, hb, HL⟩ := hrel
      rcases Nat.eq_zero_or_pos m with h0 | h0
      · have hle : m ≤ 0 := by omega
        have H0 := Lib.hid h0
        clear h0
        go_wp2
        go_ret
        exact ⟨_, rfl, by rw [Habv.out, HL.out, H0.out]; simpa [coneGo] using hown, hb⟩
      · obtain ⟨q, rfl⟩ : ∃ q, m = q + 1 := ⟨m - 1, by omega⟩
        clear h0
        obtain ⟨r, hr⟩ : ∃ r, r = row + 1 + q := ⟨_, rfl⟩
        obtain ⟨b, o, Ai, ci, rfl, hb2, hb3, hcell, hci, hmi, hi1⟩ := (h.below hb hhi).row (show r < p.length by omega)
        have e1 : ((row : Int) + ((q + 1 : Nat) : Int)) = (r : Int) := by omega
        rw [e1]
        clear e1
        have hr1 : row < r := by omega
        have HL1 : Hid (aboveL p row at_ = L ++ (rowRest p at_ r (at_ - (r - row)) ++ coneGo p row at_ 1 q)) := by
          have := HL.out
          rw [coneGo] at this
          rw [hr, show row + 1 + q - row = 1 + q by omega]; exact this
        have Hm : Hid (r = row + 1 + q) := hr
        have hm1 : q + 1 ≤ r - row := by omega
        have hm2 : r - row ≤ q + 1 := by omega
        clear HL hr
        go_wp2
        obtain ⟨wo, rfl⟩ : ∃ wo : World, wo = wr := ⟨_, rfl⟩
        go_loopw [7, 11] (fun v i wr => ∃ (j : Nat) (L : List Int), j ≤ at_ + 1 ∧ i = .int .i64 j ∧ OwnI wr w.heap.size 3 v L ∧ Below w.heap.size w wr ∧ Hid (aboveL p row at_ = L ++ (rowRest p at_ r j ++ coneGo p row at_ 1 q))) (fun _ i _ => at_ + 1 - (intOf i).toNat)
        case atStart => exact ⟨at_ - (r - row), L, by omega, by go_num, hown, hb, HL1⟩
        case round =>
          obtain ⟨j, L', hj, rfl, hown', hb', HL'⟩ := hrel
          clear hown HL1
          have hk' := (below_two hb hb').mono (Nat.zero_le lo) hhi
          have hcell' := hk'.cell hb2 hb3 hcell
          have hi' := hi1.kept hk'
          clear hcell
          by_cases hjt : j ≤ at_ ∧ j < (gr p r).length
          · obtain ⟨hja, hjl⟩ := hjt
            obtain ⟨bi, oi, rfl, hbi, hbi2, hcelli, h64⟩ := hi'.cell hjl
            have hlen : L'.length ≤ tot p := by have := congrArg List.length HL'.out; rw [List.length_append] at this; omega
            have Ht := Lib.hid (rowRest_step (p := p) hja hjl)
            have Hc := Lib.hid ((HV.out.2.2 r (by omega)).2.2 j hjl).1
            go_wp2_with (at_builtin; refine wpList_appendI SlI _ rfl (.tmp 56) (.tmp 64) rfl _ w.heap.size _ _ rfl rfl hown' h64 (by omega) hb'.size ?_; intro v' w2 hown1 hg)
            · have hne := of_bne_t ‹(gi (gr p r) j != 0) = true›
              have hp : 0 < cell p r j := by have := Hc.out; unfold cell at this ⊢; omega
              go_roundw
              case rel => exact ⟨j + 1, _, by omega, by go_num, hown1, hb'.trans hg.below, by have := HL'.out; rw [Ht.out, if_pos hp] at this; simpa [Hid, cell] using this⟩
              case measure => simp [intOf]; omega
            · have hne := of_bne_f ‹(gi (gr p r) j != 0) = false›
              have hp : ¬ 0 < cell p r j := by unfold cell; omega
              go_roundw
              case rel => exact ⟨j + 1, _, by omega, by go_num, hown', hb', by have := HL'.out; rw [Ht.out, if_neg hp] at this; exact this⟩
              case measure => simp [intOf]; omega
          · have Hj := Lib.hid (rowRest_end (p := p) (at_ := at_) (r := r) (i := j) (by omega))
            have hj2 : at_ < j ∨ (gr p r).length ≤ j := by omega
            clear hjt
            rcases hj2 with hj2 | hj2
            all_goals
              go_wp2
              go_roundw
              case rel => exact ⟨q, L', by omega, by go_num, hown', hb', by have := HL'.out; rw [Hj.out, List.nil_append] at this; exact this⟩
              case measure => simp [intOf]; omega
  · have Habv := Lib.hid (show abvL p n = [] by rw [abvL, if_neg hF])
    have hF' : FR p n < 0 := by omega
    clear hF
    go_enter Try.func15, Try.ntmps15
    go_wp2_with (go_at_call 18; refine (FindRoll_any _ _ _ _ _ _ h hhi ht).mono ?_; rintro e w1 ⟨rfl, hb1⟩)
    go_ret
    exact ⟨_, rfl, by rw [Habv.out]; exact OwnI.nil _ _ _, hb1⟩
end Go.Proofs.Ytpimbibmlmjjpaa
