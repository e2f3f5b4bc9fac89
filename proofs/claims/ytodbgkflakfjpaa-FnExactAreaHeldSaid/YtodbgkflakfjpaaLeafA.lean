/-
  Lemmas and contracts of single functions of this program, used by the proofs of its laws: what each call returns and what becomes of memory. Conditions: the hypotheses of each theorem.
-/
import Derived.Test.YtodbgkflakfjpaaRows
import Derived.Test.YtodbgkflakfjpaaWords
import Derived.Deep.QuietTactic
import Derived.BigQuiet
namespace Go.Proofs.Ytodbgkflakfjpaa
open Go.RowKit

theorem SlI : SlT Try.prog 39 3 (.int .i64 0) 1 8 := ⟨Try.underlying39, by kernel_rfl, rfl, by omega⟩

theorem inRange_any (n lo hi : Int) (w : World) :
    Calls Try.prog 66 #[.int .i64 n, .int .i64 lo, .int .i64 hi] w fun e w' => e = .returned (.bool (inR lo hi n)) ∧ w = w' := by
  go_enter Try.func66, Try.ntmps66
  go_wp2
  all_goals go_ret
  all_goals exact ⟨by unfold inR; simp [*] <;> omega, rfl⟩

theorem placeIn_any (lo hi : Nat) (v : Value) (xs : List Int) (n : Int) (w : World) (h : Ints w lo hi v xs) :
    Calls Try.prog 85 #[v, .int .i64 n] w fun e w' => e = .returned (.int .i64 (plc xs n)) ∧ w = w' := by
  obtain ⟨A, c, rfl, hc, hm, hr, _⟩ := h
  unfold maxLen at hm
  go_enter Try.func85, Try.ntmps85
  go_wp2
  go_loop [5] (fun i => ∃ k : Nat, k ≤ xs.length ∧ i = .int .i64 k ∧ plc xs n = plcFrom (xs.drop k) n k) (fun i => xs.length - (intOf i).toNat)
  case atStart => exact ⟨0, by omega, rfl, rfl⟩
  case round =>
    obtain ⟨k, hk, rfl, hno⟩ := hrel
    by_cases hlt : k < xs.length
    · have Hno := Lib.hid (hno.trans (by rw [drop_gi hlt, plcFrom]))
      clear hno
      obtain ⟨b, o, rfl, _, _, hcell⟩ := Ints.at_ hr hlt
      go_wp2
      · go_ret
        exact ⟨ret_int (by rw [Hno.out, if_pos (by simpa using ‹(gi xs k == n) = true›)]), rfl⟩
      · go_round
        case rel => exact ⟨k + 1, by omega, by go_num, by rw [Hno.out, if_neg (by simpa using ‹(gi xs k == n) = false›)]⟩
        case measure => simp [intOf]; omega
    · have Hno := Lib.hid (hno.trans (by rw [drop_end (by omega), plcFrom]))
      clear hno
      go_wp2
      go_ret
      exact ⟨ret_int Hno.out.symm, rfl⟩

theorem isIn_any (lo hi : Nat) (v : Value) (xs : List Int) (n : Int) (w : World) (h : Ints w lo hi v xs) :
    Calls Try.prog 51 #[v, .int .i64 n] w fun e w' => e = .returned (.bool (inL xs n)) ∧ w = w' := by
  obtain ⟨A, c, rfl, hc, hm, hr, _⟩ := h
  unfold maxLen at hm
  go_enter Try.func51, Try.ntmps51
  go_wp2
  go_loop [5] (fun i => ∃ k : Nat, k ≤ xs.length ∧ i = .int .i64 k ∧ inL xs n = inL (xs.drop k) n) (fun i => xs.length - (intOf i).toNat)
  case atStart => exact ⟨0, by omega, rfl, rfl⟩
  case round =>
    obtain ⟨k, hk, rfl, hno⟩ := hrel
    by_cases hlt : k < xs.length
    · have Hno := Lib.hid (hno.trans (by rw [drop_gi hlt, inL_cons]))
      clear hno
      obtain ⟨b, o, rfl, _, _, hcell⟩ := Ints.at_ hr hlt
      go_wp2
      · go_ret
        exact ⟨ret_bool (by rw [Hno.out, ‹(gi xs k == n) = true›]; rfl), rfl⟩
      · go_round
        case rel => exact ⟨k + 1, by omega, by go_num, by rw [Hno.out, ‹(gi xs k == n) = false›]; rfl⟩
        case measure => simp [intOf]; omega
    · have Hno := Lib.hid (hno.trans (by rw [drop_end (by omega), inL_nil]))
      clear hno
      go_wp2
      go_ret
      exact ⟨ret_bool Hno.out.symm, rfl⟩

theorem within_any (l1 h1 l2 h2 : Nat) (v u : Value) (xs ys : List Int) (w : World) (h : Ints w l1 h1 v xs) (hy : Ints w l2 h2 u ys) :
    Calls Try.prog 56 #[v, u] w fun e w' => e = .returned (.bool (allInL xs ys)) ∧ w = w' := by
  obtain ⟨A, c, rfl, hc, hm, hr, _⟩ := h
  unfold maxLen at hm
  go_enter Try.func56, Try.ntmps56
  go_wp2
  go_loop [5] (fun i => ∃ k : Nat, k ≤ xs.length ∧ i = .int .i64 k ∧ allInL xs ys = allInL (xs.drop k) ys) (fun i => xs.length - (intOf i).toNat)
  case atStart => exact ⟨0, by omega, rfl, rfl⟩
  case round =>
    obtain ⟨k, hk, rfl, hno⟩ := hrel
    by_cases hlt : k < xs.length
    · have Hno := Lib.hid (hno.trans (by rw [drop_gi hlt, allInL_cons]))
      clear hno
      obtain ⟨b, o, rfl, _, _, hcell⟩ := Ints.at_ hr hlt
      go_wp2_with (go_at_call 51; refine (isIn_any _ _ _ _ _ _ hy).mono ?_; rintro e w' ⟨rfl, rfl⟩)
      · go_ret
        exact ⟨ret_bool (by rw [Hno.out, (show inL ys (gi xs k) = false by simpa using ‹(!inL ys (gi xs k)) = true›)]; rfl), rfl⟩
      · go_round
        case rel => exact ⟨k + 1, by omega, by go_num, by rw [Hno.out, (show inL ys (gi xs k) = true by simpa using ‹(!inL ys (gi xs k)) = false›)]; rfl⟩
        case measure => simp [intOf]; omega
    · have Hno := Lib.hid (hno.trans (by rw [drop_end (by omega), allInL_nil]))
      clear hno
      go_wp2
      go_ret
      exact ⟨ret_bool Hno.out.symm, rfl⟩

theorem equalInts_any (l1 h1 l2 h2 : Nat) (v u : Value) (xs ys : List Int) (w : World) (h : Ints w l1 h1 v xs) (hy : Ints w l2 h2 u ys) :
    Calls Try.prog 49 #[v, u] w fun e w' => e = .returned (.bool (eqL xs ys)) ∧ Qt w w' := by
  obtain ⟨A, c, rfl, hc, hm, hr, _⟩ := h
  obtain ⟨B, d, rfl, hd, hm', hr', _⟩ := hy
  unfold maxLen at hm hm'
  by_cases hl : xs.length = ys.length
  · have hl' : ((xs.length : Int) != (ys.length : Int)) = false := by simp [hl]
    have hle : ys.length ≤ xs.length := by omega
    have Hl := Lib.hid hl
    clear hl
    go_enter Try.func49, Try.ntmps49
    go_wp2
    go_loopw [5] (fun i wr => ∃ k : Nat, k ≤ xs.length ∧ i = .int .i64 k ∧ eqL xs ys = eqL (xs.drop k) (ys.drop k) ∧ Qt w wr) (fun i _ => xs.length - (intOf i).toNat)
    case atStart => exact ⟨0, by omega, rfl, rfl, Qt.refl _⟩
    case round =>
      obtain ⟨k, hk, rfl, hno, hq⟩ := hrel
      by_cases hlt : k < xs.length
      · have hlt2 : k < ys.length := by have := Hl.out; omega
        have Hno := Lib.hid (hno.trans (by rw [drop_gi hlt, drop_gi hlt2, eqL_cons]))
        clear hno
        obtain ⟨b, o, rfl, _, _, hcell⟩ := Ints.at_ (hr.qt hq) hlt
        obtain ⟨b2, o2, rfl, _, _, hcell2⟩ := Ints.at_ (hr'.qt hq) hlt2
        go_wp2
        go_quiet (fail)
        go_wp2
        · go_ret
          exact ⟨ret_bool (by rw [Hno.out, decide_eq_false (by simpa using ‹(gi xs k != gi ys k) = true›)]; rfl), hq.trans (Qt.one _ _)⟩
        · go_roundw
          case rel => exact ⟨k + 1, by omega, by go_num, by rw [Hno.out, decide_eq_true (by simpa using ‹(gi xs k != gi ys k) = false›)]; rfl, hq.trans (Qt.one _ _)⟩
          case measure => simp [intOf]; omega
      · have Hno := Lib.hid (hno.trans (by rw [drop_end (by omega), drop_end (by have := Hl.out; omega), eqL_nil]))
        clear hno
        go_wp2
        go_ret
        exact ⟨ret_bool Hno.out.symm, hq⟩
  · have hl' : ((xs.length : Int) != (ys.length : Int)) = true := by simp; omega
    have Hl := Lib.hid hl
    clear hl
    go_enter Try.func49, Try.ntmps49
    go_wp2
    go_ret
    exact ⟨ret_bool (eqL_len Hl.out).symm, Qt.refl _⟩

theorem eqIntS_any (l1 h1 l2 h2 : Nat) (v u : Value) (xs ys : List Int) (w : World) (h : Ints w l1 h1 v xs) (hy : Ints w l2 h2 u ys) :
    Calls Try.prog 28 #[v, u] w fun e w' => e = .returned (.bool (eqL xs ys)) ∧ Qt w w' := by
  obtain ⟨A, c, rfl, hc, hm, hr, _⟩ := h
  obtain ⟨B, d, rfl, hd, hm', hr', _⟩ := hy
  unfold maxLen at hm hm'
  by_cases hl : xs.length = ys.length
  · have hl' : ((xs.length : Int) != (ys.length : Int)) = false := by simp [hl]
    have hle : ys.length ≤ xs.length := by omega
    have Hl := Lib.hid hl
    clear hl
    go_enter Try.func28, Try.ntmps28
    go_wp2
    go_loopw [5] (fun i wr => ∃ k : Nat, k ≤ xs.length ∧ i = .int .i64 k ∧ eqL xs ys = eqL (xs.drop k) (ys.drop k) ∧ Qt w wr) (fun i _ => xs.length - (intOf i).toNat)
    case atStart => exact ⟨0, by omega, rfl, rfl, Qt.refl _⟩
    case round =>
      obtain ⟨k, hk, rfl, hno, hq⟩ := hrel
      by_cases hlt : k < xs.length
      · have hlt2 : k < ys.length := by have := Hl.out; omega
        have Hno := Lib.hid (hno.trans (by rw [drop_gi hlt, drop_gi hlt2, eqL_cons]))
        clear hno
        obtain ⟨b, o, rfl, _, _, hcell⟩ := Ints.at_ (hr.qt hq) hlt
        obtain ⟨b2, o2, rfl, _, _, hcell2⟩ := Ints.at_ (hr'.qt hq) hlt2
        go_wp2
        go_quiet (fail)
        go_wp2
        · go_ret
          exact ⟨ret_bool (by rw [Hno.out, decide_eq_false (by simpa using ‹(gi xs k != gi ys k) = true›)]; rfl), hq.trans (Qt.one _ _)⟩
        · go_roundw
          case rel => exact ⟨k + 1, by omega, by go_num, by rw [Hno.out, decide_eq_true (by simpa using ‹(gi xs k != gi ys k) = false›)]; rfl, hq.trans (Qt.one _ _)⟩
          case measure => simp [intOf]; omega
      · have Hno := Lib.hid (hno.trans (by rw [drop_end (by omega), drop_end (by have := Hl.out; omega), eqL_nil]))
        clear hno
        go_wp2
        go_ret
        exact ⟨ret_bool Hno.out.symm, hq⟩
  · have hl' : ((xs.length : Int) != (ys.length : Int)) = true := by simp; omega
    have Hl := Lib.hid hl
    clear hl
    go_enter Try.func28, Try.ntmps28
    go_wp2
    go_ret
    exact ⟨ret_bool (eqL_len Hl.out).symm, Qt.refl _⟩





end Go.Proofs.Ytodbgkflakfjpaa
