/-
  Lemmas and contracts of single functions of this program, used by the proofs of its laws: what each call returns and what becomes of memory. Conditions: the hypotheses of each theorem.
-/
import Derived.Test.YtpimbibmlmjjpaaPileC
namespace Go.Proofs.Ytpimbibmlmjjpaa
open Go.RowKit

set_option maxHeartbeats 800000 in
theorem FindRoll_any (lo hi : Nat) (v : Value) (p : List (List Int)) (n : Int) (w : World) (h : IRows w lo hi v p) (hhi : hi ≤ w.heap.size) (ht : tot p ≤ 1048576) :
    Calls Try.prog 18 #[v, .int .i64 n] w fun e w' => e = .returned (.tuple #[.int .i64 (FR p n), .int .i64 (FC p n)]) ∧ Below w.heap.size w w' := by
  obtain ⟨A, c, rfl, hc, hm⟩ := h.form
  have main : vPile p = false ∨ (vPile p = true ∧ n < 1) ∨ (vPile p = true ∧ 9999 < n) ∨ (vPile p = true ∧ 1 ≤ n ∧ n ≤ 9999) := by
    cases vPile p <;> simp <;> omega
  rcases main with hv | ⟨hv, hn⟩ | ⟨hv, hn⟩ | ⟨hv, hn1, hn2⟩
  · go_enter Try.func18, Try.ntmps18
    go_wp2_with (go_at_call 35; refine (ValidPile_any _ _ _ _ _ h hhi ht).mono ?_; rw [hv]; rintro e w1 ⟨rfl, hb⟩)
    go_ret2
    exact ⟨ret_two (by simp [FR, okLabel, hv]) (by simp [FC, okLabel, hv]), hb⟩
  · go_enter Try.func18, Try.ntmps18
    go_wp2_with (go_at_call 35; refine (ValidPile_any _ _ _ _ _ h hhi ht).mono ?_; rw [hv]; rintro e w1 ⟨rfl, hb⟩)
    go_ret2
    have e := inR_no (lo := 1) (hi := 9999) (n := n) (by omega)
    exact ⟨ret_two (by simp [FR, okLabel, e]) (by simp [FC, okLabel, e]), hb⟩
  · go_enter Try.func18, Try.ntmps18
    go_wp2_with (go_at_call 35; refine (ValidPile_any _ _ _ _ _ h hhi ht).mono ?_; rw [hv]; rintro e w1 ⟨rfl, hb⟩)
    go_ret2
    have e := inR_no (lo := 1) (hi := 9999) (n := n) (by omega)
    exact ⟨ret_two (by simp [FR, okLabel, e]) (by simp [FC, okLabel, e]), hb⟩
  · have Hok := Lib.hid (show okLabel p n = true by simp [okLabel, hv, inR_mk (lo := 1) (hi := 9999) ⟨hn1, hn2⟩])
    go_enter Try.func18, Try.ntmps18
    go_wp2_with (go_at_call 35; refine (ValidPile_any _ _ _ _ _ h hhi ht).mono ?_; rw [hv]; rintro e w1 ⟨rfl, hb⟩)
    clear hv
    have h1 := h.below hb hhi
    go_loop [22] (fun i => ∃ k : Nat, k ≤ p.length ∧ i = .int .i64 k ∧ fnd p n = fndFrom (p.drop k) n k) (fun i => p.length - (intOf i).toNat)
    case atStart => exact ⟨0, by omega, rfl, rfl⟩
    case round =>
      obtain ⟨k, hk, rfl, hno⟩ := hrel
      by_cases hlt : k < p.length
      · have Hno := Lib.hid (hno.trans (by rw [drop_gr hlt, fndFrom]))
        clear hno
        obtain ⟨b, o, Ai, ci, rfl, _, _, hcell, hci, hmi, hi1⟩ := h1.row hlt
        go_wp2_with (go_at_call 50; refine (index_any _ _ _ _ _ _ hi1).mono ?_; rintro e w' ⟨rfl, rfl⟩)
        · go_ret2
          have e := Hno.out
          rw [if_pos ‹0 ≤ plc (gr p k) n›] at e
          exact ⟨ret_two (by rw [FR, if_pos Hok.out, fndR, e]) (by rw [FC, if_pos Hok.out, fndC, e]), hb⟩
        · go_round
          case rel => exact ⟨k + 1, by omega, by go_num, by rw [Hno.out, if_neg (by omega)]⟩
          case measure => simp [intOf]; omega
      · have Hno := Lib.hid (hno.trans (by rw [drop_end (by omega), fndFrom]))
        clear hno
        go_wp2
        go_ret2
        exact ⟨ret_two (by rw [FR, if_pos Hok.out, fndR, Hno.out]) (by rw [FC, if_pos Hok.out, fndC, Hno.out]), hb⟩

def labV (p : List (List Int)) : List Int := if vPile p = true then labelsL p else []
set_option maxHeartbeats 800000 in
theorem LabelsOf_any (lo hi : Nat) (v : Value) (p : List (List Int)) (w : World) (h : IRows w lo hi v p) (hhi : hi ≤ w.heap.size) (ht : tot p ≤ 1048576) :
    Calls Try.prog 34 #[v] w fun e w' => ∃ v', e = .returned v' ∧ OwnI w' w.heap.size 3 v' (labV p) ∧ Below w.heap.size w w' := by
  obtain ⟨A, c, rfl, hc, hm⟩ := h.form
  cases hv : vPile p
  · go_enter Try.func34, Try.ntmps34
    go_wp2_with (go_at_call 35; refine (ValidPile_any _ _ _ _ _ h hhi ht).mono ?_; rw [hv]; rintro e w1 ⟨rfl, hb⟩)
    go_ret
    exact ⟨_, rfl, by rw [labV, hv]; exact OwnI.nil _ _ _, hb⟩
  · have HV := Lib.hid (vPile_true hv)
    have Hl := Lib.hid (show labV p = labelsL p by rw [labV, hv]; rfl)
    go_enter Try.func34, Try.ntmps34
    go_wp2_with (go_at_call 35; refine (ValidPile_any _ _ _ _ _ h hhi ht).mono ?_; rw [hv]; rintro e w1 ⟨rfl, hb1⟩)
    clear hv
    go_loopw [3, 13] (fun v i wr => ∃ k : Nat, k ≤ p.length ∧ i = .int .i64 k ∧ OwnI wr w.heap.size 3 v (labelsL (p.take k)) ∧ Below w.heap.size w wr) (fun _ i _ => p.length - (intOf i).toNat)
    case atStart => exact ⟨0, by omega, rfl, OwnI.nil _ _ _, hb1⟩
    case round =>
      obtain ⟨k, hk, rfl, hown, hb⟩ := hrel
      by_cases hlt : k < p.length
      · obtain ⟨b, o, Ai, ci, rfl, hb2, hb3, hcell, hci, hmi, hi1⟩ := (h.below hb hhi).row hlt
        go_wp2
        obtain ⟨wo, rfl⟩ : ∃ wo : World, wo = wr := ⟨_, rfl⟩
        go_loopw [3, 19] (fun v i wr => ∃ j : Nat, j ≤ (gr p k).length ∧ i = .int .i64 j ∧ OwnI wr w.heap.size 3 v (seen p k j) ∧ Below w.heap.size w wr) (fun _ i _ => (gr p k).length - (intOf i).toNat)
        case atStart => exact ⟨0, by omega, rfl, by rw [seen_zero]; exact hown, hb⟩
        case round =>
          obtain ⟨j, hj, rfl, hown', hb'⟩ := hrel
          clear hown
          have hi' := hi1.kept ((below_two hb hb').mono (Nat.zero_le lo) hhi)
          by_cases hjt : j < (gr p k).length
          · obtain ⟨bi, oi, rfl, hbi, hbi2, hcelli, h64⟩ := hi'.cell hjt
            have hlen := seen_len hlt hj
            have Ht := Lib.hid (seen_succ (p := p) hjt)
            have Hc := Lib.hid ((HV.out.2.2 k hlt).2.2 j hjt).1
            go_wp2_with (at_builtin; refine wpList_appendI SlI _ rfl (.tmp 25) (.tmp 27) rfl _ w.heap.size _ _ rfl rfl hown' h64 (by omega) hb'.size ?_; intro v' w1 hown1 hg)
            · have hne := of_bne_t ‹(gi (gr p k) j != 0) = true›
              go_roundw
              case rel => exact ⟨j + 1, by omega, by go_num, by rw [Ht.out, if_pos (by have := Hc.out; unfold cell at this ⊢; omega)]; exact hown1, hb'.trans hg.below⟩
              case measure => simp [intOf]; omega
            · have hne := of_bne_f ‹(gi (gr p k) j != 0) = false›
              go_roundw
              case rel => exact ⟨j + 1, by omega, by go_num, by rw [Ht.out, if_neg (by unfold cell; omega)]; exact hown', hb'⟩
              case measure => simp [intOf]; omega
          · go_wp2
            go_roundw
            case rel => exact ⟨k + 1, by omega, by go_num, by rw [← seen_row hlt (i := j) (by omega)]; exact hown', hb'⟩
            case measure => simp [intOf]; omega
      · go_wp2
        go_ret
        have e : k = p.length := by omega
        exact ⟨_, rfl, by rw [Hl.out]; simpa [e] using hown, hb⟩

set_option maxRecDepth 100000 in
set_option maxHeartbeats 800000 in
theorem cone_any (lo hi : Nat) (v : Value) (p : List (List Int)) (row at_ : Nat) (w : World) (h : IRows w lo hi v p) (hhi : hi ≤ w.heap.size) (ht : tot p ≤ 1048576)
    (hrow : row ≤ p.length) (hat : at_ ≤ 1048576) (hpl : p.length ≤ 1048576) :
    Calls Try.prog 49 #[v, .int .i64 row, .int .i64 at_] w fun e w' => ∃ v', e = .returned v' ∧ OwnI w' w.heap.size 3 v' (coneL p row at_) ∧ Below w.heap.size w w' := by
  obtain ⟨A, c, rfl, hc, hm⟩ := h.form
  have hall := coneL_len (at_ := at_) hrow
  go_enter Try.func49, Try.ntmps49
  go_wp2
  go_loopw [7, 8, 9] (fun v i _ wr => ∃ (n : Nat) (L : List Int), row + n ≤ p.length ∧ i = .int .i64 ((row : Int) + n - 1) ∧ OwnI wr w.heap.size 3 v L ∧ Below w.heap.size w wr ∧ Hid (coneL p row at_ = L ++ coneGo p row at_ 0 n)) (fun _ i _ _ => (intOf i + 1 - row).toNat)
  case atStart => exact ⟨p.length - row, [], by omega, by go_num, OwnI.empty _ _ _ (Nat.le_refl _), (Below.refl _ _).alloc (Nat.le_refl _) _, rfl⟩
  case round =>
    obtain ⟨n, L, hk, rfl, hown, hb, HL⟩ := hrel
    rcases Nat.eq_zero_or_pos n with h0 | h0
    · have hle : n ≤ 0 := by omega
      have H0 := Lib.hid h0
      clear h0
      go_wp2
      go_ret
      exact ⟨_, rfl, by rw [HL.out, H0.out]; simpa [coneGo] using hown, hb⟩
    · obtain ⟨m, rfl⟩ : ∃ m, n = m + 1 := ⟨n - 1, by omega⟩
      clear h0
      obtain ⟨r, hr⟩ : ∃ r, r = row + m := ⟨_, rfl⟩
      obtain ⟨b, o, Ai, ci, rfl, hb2, hb3, hcell, hci, hmi, hi1⟩ := (h.below hb hhi).row (show r < p.length by omega)
      have e1 : ((row : Int) + ((m + 1 : Nat) : Int) - 1) = (r : Int) := by omega
      rw [e1]
      clear e1
      have hr1 : row ≤ r := by omega
      have HL1 : Hid (coneL p row at_ = L ++ (rowRest p at_ r (at_ - m) ++ coneGo p row at_ 0 m)) := by
        have := HL.out
        rw [coneGo] at this
        simp only [Nat.add_zero, Nat.zero_add] at this
        rw [hr]; exact this
      have Hm : Hid (r = row + m) := hr
      have hm1 : m ≤ r - row := by omega
      have hm2 : r - row ≤ m := by omega
      clear HL hr
      go_wp2
      obtain ⟨wo, rfl⟩ : ∃ wo : World, wo = wr := ⟨_, rfl⟩
      go_loopw [7, 9] (fun v i wr => ∃ (j : Nat) (L : List Int), j ≤ at_ + 1 ∧ i = .int .i64 j ∧ OwnI wr w.heap.size 3 v L ∧ Below w.heap.size w wr ∧ Hid (coneL p row at_ = L ++ (rowRest p at_ (r) j ++ coneGo p row at_ 0 m))) (fun _ i _ => at_ + 1 - (intOf i).toNat)
      case atStart => exact ⟨at_ - m, L, by omega, by go_num, hown, hb, HL1⟩
      case round =>
        obtain ⟨j, L', hj, rfl, hown', hb', HL'⟩ := hrel
        clear hown HL1
        have hk' := (below_two hb hb').mono (Nat.zero_le lo) hhi
        have hcell' := hk'.cell hb2 hb3 hcell
        have hi' := hi1.kept hk'
        clear hcell
        by_cases hjt : j ≤ at_ ∧ j < (gr p (r)).length
        · obtain ⟨hja, hjl⟩ := hjt
          obtain ⟨bi, oi, rfl, hbi, hbi2, hcelli, h64⟩ := hi'.cell hjl
          have hlen : L'.length ≤ tot p := by have := congrArg List.length HL'.out; rw [List.length_append] at this; omega
          have Ht := Lib.hid (rowRest_step (p := p) hja hjl)
          go_wp2_with (at_builtin; refine wpList_appendI SlI _ rfl (.tmp 45) (.tmp 53) rfl _ w.heap.size _ _ rfl rfl hown' h64 (by omega) hb'.size ?_; intro v' w1 hown1 hg)
          · have hp : 0 < cell p (r) j := ‹0 < gi (gr p (r)) j›
            go_roundw
            case rel => exact ⟨j + 1, _, by omega, by go_num, hown1, hb'.trans hg.below, by have := HL'.out; rw [Ht.out, if_pos hp] at this; simpa [Hid, cell] using this⟩
            case measure => simp [intOf]; omega
          · have hp : ¬ 0 < cell p (r) j := by unfold cell; omega
            go_roundw
            case rel => exact ⟨j + 1, _, by omega, by go_num, hown', hb', by have := HL'.out; rw [Ht.out, if_neg hp] at this; exact this⟩
            case measure => simp [intOf]; omega
        · have Hj := Lib.hid (rowRest_end (p := p) (at_ := at_) (r := r) (i := j) (by omega))
          have hj2 : at_ < j ∨ (gr p (r)).length ≤ j := by omega
          clear hjt
          rcases hj2 with hj2 | hj2
          all_goals
            go_wp2
            go_roundw
            case rel => exact ⟨m, L', by omega, by go_num, hown', hb', by have := HL'.out; rw [Hj.out, List.nil_append] at this; exact this⟩
            case measure => simp [intOf]; omega
end Go.Proofs.Ytpimbibmlmjjpaa
