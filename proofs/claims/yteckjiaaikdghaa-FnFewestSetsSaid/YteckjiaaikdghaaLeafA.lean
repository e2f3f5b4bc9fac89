/-
  Lemmas and contracts of single functions of this program, used by the proofs of its laws: what each call returns and what becomes of memory. Conditions: the hypotheses of each theorem.
-/
import Derived.Test.YteckjiaaikdghaaRows
import Derived.Test.YteckjiaaikdghaaWords
import Derived.Deep.QuietTactic
import Derived.BigQuiet
namespace Go.Proofs.Yteckjiaaikdghaa
open Go.RowKit

theorem SlI : SlT Try.prog 22 3 (.int .i64 0) 1 8 := ⟨Try.underlying22, by kernel_rfl, rfl, by omega⟩
theorem SlR : SlT Try.prog 27 22 (.slice none 0 0) 1 24 := ⟨Try.underlying27, by kernel_rfl, rfl, by omega⟩

theorem inRange_any (n lo hi : Int) (w : World) :
    Calls Try.prog 113 #[.int .i64 n, .int .i64 lo, .int .i64 hi] w fun e w' => e = .returned (.bool (inR lo hi n)) ∧ w = w' := by
  go_enter Try.func113, Try.ntmps113
  go_wp2
  all_goals go_ret
  all_goals exact ⟨by unfold inR; simp [*] <;> omega, rfl⟩

theorem placeIn_any (lo hi : Nat) (v : Value) (xs : List Int) (n : Int) (w : World) (h : Ints w lo hi v xs) :
    Calls Try.prog 88 #[v, .int .i64 n] w fun e w' => e = .returned (.int .i64 (plc xs n)) ∧ w = w' := by
  obtain ⟨A, c, rfl, hc, hm, hr, _⟩ := h
  unfold maxLen at hm
  go_enter Try.func88, Try.ntmps88
  go_wp2
  go_loop [5] (fun i => ∃ k : Nat, k ≤ xs.length ∧ i = .int .i64 k ∧ plc xs n = plcFrom (xs.drop k) n k) (fun i => xs.length - (intOf i).toNat)
  case atStart => exact ⟨0, by omega, rfl, rfl⟩
  case round =>
    obtain ⟨k, hk, rfl, hno⟩ := hrel
    by_cases hlt : k < xs.length
    · have Hno := Lib.hid (hno.trans (by rw [drop_gi hlt, plcFrom]))
      clear hno
      obtain ⟨b, o, rfl, _, _, hcell⟩ := Ints.at_ hr hlt
      go_wp2
      · go_ret
        exact ⟨ret_int (by rw [Hno.out, if_pos (by simpa using ‹(gi xs k == n) = true›)]), rfl⟩
      · go_round
        case rel => exact ⟨k + 1, by omega, by go_num, by rw [Hno.out, if_neg (by simpa using ‹(gi xs k == n) = false›)]⟩
        case measure => simp [intOf]; omega
    · have Hno := Lib.hid (hno.trans (by rw [drop_end (by omega), plcFrom]))
      clear hno
      go_wp2
      go_ret
      exact ⟨ret_int Hno.out.symm, rfl⟩



theorem equalInts_any (l1 h1 l2 h2 : Nat) (v u : Value) (xs ys : List Int) (w : World) (h : Ints w l1 h1 v xs) (hy : Ints w l2 h2 u ys) :
    Calls Try.prog 28 #[v, u] w fun e w' => e = .returned (.bool (eqL xs ys)) ∧ Qt w w' := by
  obtain ⟨A, c, rfl, hc, hm, hr, _⟩ := h
  obtain ⟨B, d, rfl, hd, hm', hr', _⟩ := hy
  unfold maxLen at hm hm'
  by_cases hl : xs.length = ys.length
  · have hl' : ((xs.length : Int) != (ys.length : Int)) = false := by simp [hl]
    have hle : ys.length ≤ xs.length := by omega
    have Hl := Lib.hid hl
    clear hl
    go_enter Try.func28, Try.ntmps28
    go_wp2
    go_loopw [5] (fun i wr => ∃ k : Nat, k ≤ xs.length ∧ i = .int .i64 k ∧ eqL xs ys = eqL (xs.drop k) (ys.drop k) ∧ Qt w wr) (fun i _ => xs.length - (intOf i).toNat)
    case atStart => exact ⟨0, by omega, rfl, rfl, Qt.refl _⟩
    case round =>
      obtain ⟨k, hk, rfl, hno, hq⟩ := hrel
      by_cases hlt : k < xs.length
      · have hlt2 : k < ys.length := by have := Hl.out; omega
        have Hno := Lib.hid (hno.trans (by rw [drop_gi hlt, drop_gi hlt2, eqL_cons]))
        clear hno
        obtain ⟨b, o, rfl, _, _, hcell⟩ := Ints.at_ (hr.qt hq) hlt
        obtain ⟨b2, o2, rfl, _, _, hcell2⟩ := Ints.at_ (hr'.qt hq) hlt2
        go_wp2
        go_quiet (fail)
        go_wp2
        · go_ret
          exact ⟨ret_bool (by rw [Hno.out, decide_eq_false (by simpa using ‹(gi xs k != gi ys k) = true›)]; rfl), hq.trans (Qt.one _ _)⟩
        · go_roundw
          case rel => exact ⟨k + 1, by omega, by go_num, by rw [Hno.out, decide_eq_true (by simpa using ‹(gi xs k != gi ys k) = false›)]; rfl, hq.trans (Qt.one _ _)⟩
          case measure => simp [intOf]; omega
      · have Hno := Lib.hid (hno.trans (by rw [drop_end (by omega), drop_end (by have := Hl.out; omega), eqL_nil]))
        clear hno
        go_wp2
        go_ret
        exact ⟨ret_bool Hno.out.symm, hq⟩
  · have hl' : ((xs.length : Int) != (ys.length : Int)) = true := by simp; omega
    have Hl := Lib.hid hl
    clear hl
    go_enter Try.func28, Try.ntmps28
    go_wp2
    go_ret
    exact ⟨ret_bool (eqL_len Hl.out).symm, Qt.refl _⟩

theorem eqIntS_any (l1 h1 l2 h2 : Nat) (v u : Value) (xs ys : List Int) (w : World) (h : Ints w l1 h1 v xs) (hy : Ints w l2 h2 u ys) :
    Calls Try.prog 15 #[v, u] w fun e w' => e = .returned (.bool (eqL xs ys)) ∧ Qt w w' := by
  obtain ⟨A, c, rfl, hc, hm, hr, _⟩ := h
  obtain ⟨B, d, rfl, hd, hm', hr', _⟩ := hy
  unfold maxLen at hm hm'
  by_cases hl : xs.length = ys.length
  · have hl' : ((xs.length : Int) != (ys.length : Int)) = false := by simp [hl]
    have hle : ys.length ≤ xs.length := by omega
    have Hl := Lib.hid hl
    clear hl
    go_enter Try.func15, Try.ntmps15
    go_wp2
    go_loopw [5] (fun i wr => ∃ k : Nat, k ≤ xs.length ∧ i = .int .i64 k ∧ eqL xs ys = eqL (xs.drop k) (ys.drop k) ∧ Qt w wr) (fun i _ => xs.length - (intOf i).toNat)
    case atStart => exact ⟨0, by omega, rfl, rfl, Qt.refl _⟩
    case round =>
      obtain ⟨k, hk, rfl, hno, hq⟩ := hrel
      by_cases hlt : k < xs.length
      · have hlt2 : k < ys.length := by have := Hl.out; omega
        have Hno := Lib.hid (hno.trans (by rw [drop_gi hlt, drop_gi hlt2, eqL_cons]))
        clear hno
        obtain ⟨b, o, rfl, _, _, hcell⟩ := Ints.at_ (hr.qt hq) hlt
        obtain ⟨b2, o2, rfl, _, _, hcell2⟩ := Ints.at_ (hr'.qt hq) hlt2
        go_wp2
        go_quiet (fail)
        go_wp2
        · go_ret
          exact ⟨ret_bool (by rw [Hno.out, decide_eq_false (by simpa using ‹(gi xs k != gi ys k) = true›)]; rfl), hq.trans (Qt.one _ _)⟩
        · go_roundw
          case rel => exact ⟨k + 1, by omega, by go_num, by rw [Hno.out, decide_eq_true (by simpa using ‹(gi xs k != gi ys k) = false›)]; rfl, hq.trans (Qt.one _ _)⟩
          case measure => simp [intOf]; omega
      · have Hno := Lib.hid (hno.trans (by rw [drop_end (by omega), drop_end (by have := Hl.out; omega), eqL_nil]))
        clear hno
        go_wp2
        go_ret
        exact ⟨ret_bool Hno.out.symm, hq⟩
  · have hl' : ((xs.length : Int) != (ys.length : Int)) = true := by simp; omega
    have Hl := Lib.hid hl
    clear hl
    go_enter Try.func15, Try.ntmps15
    go_wp2
    go_ret
    exact ⟨ret_bool (eqL_len Hl.out).symm, Qt.refl _⟩

theorem equalLists_any (l1 h1 l2 h2 : Nat) (v u : Value) (xs ys : List (List Int)) (w : World) (h : IRows w l1 h1 v xs) (hy : IRows w l2 h2 u ys) :
    Calls Try.prog 36 #[v, u] w fun e w' => e = .returned (.bool (eqLL xs ys)) ∧ Qt w w' := by
  obtain ⟨A, c, vs, rfl, hc, hm, hr, hrow⟩ := h
  obtain ⟨B, d, us, rfl, hd, hm', hr', hrow'⟩ := hy
  unfold maxLen at hm hm'
  by_cases hl : xs.length = ys.length
  · have hl' : ((xs.length : Int) != (ys.length : Int)) = false := by simp [hl]
    have hle : ys.length ≤ xs.length := by omega
    have Hl := Lib.hid hl
    clear hl
    go_enter Try.func36, Try.ntmps36
    go_wp2
    go_loopw [5] (fun i wr => ∃ k : Nat, k ≤ xs.length ∧ i = .int .i64 k ∧ eqLL xs ys = eqLL (xs.drop k) (ys.drop k) ∧ Qt w wr) (fun i _ => xs.length - (intOf i).toNat)
    case atStart => exact ⟨0, by omega, rfl, rfl, Qt.refl _⟩
    case round =>
      obtain ⟨k, hk, rfl, hno, hq⟩ := hrel
      by_cases hlt : k < xs.length
      · have hlt2 : k < ys.length := by have := Hl.out; omega
        have Hno := Lib.hid (hno.trans (by rw [drop_gr hlt, drop_gr hlt2, eqLL_cons]))
        clear hno
        obtain ⟨b, o, rfl, _, _, hcell⟩ := IRows.at_ (hr.qt hq) hlt
        obtain ⟨b2, o2, rfl, _, _, hcell2⟩ := IRows.at_ (hr'.qt hq) hlt2
        have hi1 := (hrow k hlt).qt hq
        have hi2 := (hrow' k hlt2).qt hq
        go_wp2
        go_quiet ((go_at_call 28; exact Qt.call (equalInts_any _ _ _ _ _ _ _ _ _ (hi1.drewN _) (hi2.drewN _))))
        go_wp2
        · go_ret
          exact ⟨ret_bool (by rw [Hno.out, (show eqL (gr xs k) (gr ys k) = false by simpa using ‹(!eqL (gr xs k) (gr ys k)) = true›)]; rfl), hq.trans (Qt.one _ _)⟩
        · go_roundw
          case rel => exact ⟨k + 1, by omega, by go_num, by rw [Hno.out, (show eqL (gr xs k) (gr ys k) = true by simpa using ‹(!eqL (gr xs k) (gr ys k)) = false›)]; rfl, hq.trans (Qt.one _ _)⟩
          case measure => simp [intOf]; omega
      · have Hno := Lib.hid (hno.trans (by rw [drop_end (by omega), drop_end (by have := Hl.out; omega), eqLL_nil]))
        clear hno
        go_wp2
        go_ret
        exact ⟨ret_bool Hno.out.symm, hq⟩
  · have hl' : ((xs.length : Int) != (ys.length : Int)) = true := by simp; omega
    have Hl := Lib.hid hl
    clear hl
    go_enter Try.func36, Try.ntmps36
    go_wp2
    go_ret
    exact ⟨ret_bool (eqLL_len Hl.out).symm, Qt.refl _⟩

theorem eqIntSS_any (l1 h1 l2 h2 : Nat) (v u : Value) (xs ys : List (List Int)) (w : World) (h : IRows w l1 h1 v xs) (hy : IRows w l2 h2 u ys) :
    Calls Try.prog 22 #[v, u] w fun e w' => e = .returned (.bool (eqLL xs ys)) ∧ Qt w w' := by
  obtain ⟨A, c, vs, rfl, hc, hm, hr, hrow⟩ := h
  obtain ⟨B, d, us, rfl, hd, hm', hr', hrow'⟩ := hy
  unfold maxLen at hm hm'
  by_cases hl : xs.length = ys.length
  · have hl' : ((xs.length : Int) != (ys.length : Int)) = false := by simp [hl]
    have hle : ys.length ≤ xs.length := by omega
    have Hl := Lib.hid hl
    clear hl
    go_enter Try.func22, Try.ntmps22
    go_wp2
    go_loopw [5] (fun i wr => ∃ k : Nat, k ≤ xs.length ∧ i = .int .i64 k ∧ eqLL xs ys = eqLL (xs.drop k) (ys.drop k) ∧ Qt w wr) (fun i _ => xs.length - (intOf i).toNat)
    case atStart => exact ⟨0, by omega, rfl, rfl, Qt.refl _⟩
    case round =>
      obtain ⟨k, hk, rfl, hno, hq⟩ := hrel
      by_cases hlt : k < xs.length
      · have hlt2 : k < ys.length := by have := Hl.out; omega
        have Hno := Lib.hid (hno.trans (by rw [drop_gr hlt, drop_gr hlt2, eqLL_cons]))
        clear hno
        obtain ⟨b, o, rfl, _, _, hcell⟩ := IRows.at_ (hr.qt hq) hlt
        obtain ⟨b2, o2, rfl, _, _, hcell2⟩ := IRows.at_ (hr'.qt hq) hlt2
        have hi1 := (hrow k hlt).qt hq
        have hi2 := (hrow' k hlt2).qt hq
        go_wp2
        go_quiet ((go_at_call 15; exact Qt.call (eqIntS_any _ _ _ _ _ _ _ _ _ (hi1.drewN _) (hi2.drewN _))))
        go_wp2
        · go_ret
          exact ⟨ret_bool (by rw [Hno.out, (show eqL (gr xs k) (gr ys k) = false by simpa using ‹(!eqL (gr xs k) (gr ys k)) = true›)]; rfl), hq.trans (Qt.one _ _)⟩
        · go_roundw
          case rel => exact ⟨k + 1, by omega, by go_num, by rw [Hno.out, (show eqL (gr xs k) (gr ys k) = true by simpa using ‹(!eqL (gr xs k) (gr ys k)) = false›)]; rfl, hq.trans (Qt.one _ _)⟩
          case measure => simp [intOf]; omega
      · have Hno := Lib.hid (hno.trans (by rw [drop_end (by omega), drop_end (by have := Hl.out; omega), eqLL_nil]))
        clear hno
        go_wp2
        go_ret
        exact ⟨ret_bool Hno.out.symm, hq⟩
  · have hl' : ((xs.length : Int) != (ys.length : Int)) = true := by simp; omega
    have Hl := Lib.hid hl
    clear hl
    go_enter Try.func22, Try.ntmps22
    go_wp2
    go_ret
    exact ⟨ret_bool (eqLL_len Hl.out).symm, Qt.refl _⟩

theorem szIntS_any (l1 h1 : Nat) (v : Value) (xs : List Int) (n : Nat) (w : World) (h : Ints w l1 h1 v xs) (hn : n ≤ 1048576) :
    Calls Try.prog 53 #[v, .int .i64 (n : Int)] w fun e w' => e = .returned (.int .i64 (szR n xs.length)) ∧ w = w' := by
  obtain ⟨A, c, rfl, hc, hm, hr, _⟩ := h
  unfold maxLen at hm
  by_cases hl : xs.length ≤ n
  · go_enter Try.func53, Try.ntmps53
    go_wp2
    go_ret
    exact ⟨ret_int (by rw [szR, if_pos hl]), rfl⟩
  · go_enter Try.func53, Try.ntmps53
    go_wp2
    go_ret
    exact ⟨ret_int (by rw [szR, if_neg hl]), rfl⟩

/-- the size test: a number of at least 0 tells that all rows together are at most 'left' long -/
theorem szIntSS_any (l1 h1 : Nat) (v : Value) (xs : List (List Int)) (n : Nat) (w : World) (h : IRows w l1 h1 v xs) (hn : n ≤ 1048576) :
    Calls Try.prog 18 #[v, .int .i64 (n : Int)] w fun e w' => (∃ m : Int, e = .returned (.int .i64 m) ∧ (0 ≤ m → xs.length + tot xs ≤ n)) ∧ w = w' := by
  obtain ⟨A, c, vs, rfl, hc, hm, hr, hrow⟩ := h
  unfold maxLen at hm
  by_cases hl : xs.length ≤ n
  · go_enter Try.func18, Try.ntmps18
    go_wp2
    go_loop [1, 5] (fun l i => ∃ (k : Nat) (m : Nat), k ≤ xs.length ∧ i = .int .i64 k ∧ l = .int .i64 m ∧ m + xs.length + tot (xs.take k) = n) (fun _ i => xs.length - (intOf i).toNat)
    case atStart => exact ⟨0, n - xs.length, by omega, rfl, by go_num, by simp [tot]; omega⟩
    case round =>
      obtain ⟨k, m, hk, rfl, rfl, hm2⟩ := hrel
      have Hm := Lib.hid hm2
      have hm3 : m ≤ 1048576 := by omega
      clear hm2
      by_cases hlt : k < xs.length
      · obtain ⟨b, o, rfl, _, _, hcell⟩ := IRows.at_ hr hlt
        have hi1 := hrow k hlt
        by_cases hl2 : (gr xs k).length ≤ m
        · go_wp2_with (go_at_call 53; refine (szIntS_any _ _ _ _ _ _ hi1 hm3).mono ?_; rw [szR, if_pos hl2]; rintro e w' ⟨rfl, rfl⟩)
          go_round
          case rel => exact ⟨k + 1, m - (gr xs k).length, by omega, by go_num, by go_num, by have := Hm.out; rw [tot_succ hlt]; omega⟩
          case measure => simp [intOf]; omega
        · go_wp2_with (go_at_call 53; refine (szIntS_any _ _ _ _ _ _ hi1 hm3).mono ?_; rw [szR, if_neg hl2]; rintro e w' ⟨rfl, rfl⟩)
          go_ret
          exact ⟨⟨_, rfl, fun h => absurd h (by decide)⟩, rfl⟩
      · go_wp2
        go_ret
        refine ⟨⟨_, rfl, fun _ => ?_⟩, rfl⟩
        have := Hm.out
        rw [List.take_of_length_le (by omega)] at this
        omega
  · go_enter Try.func18, Try.ntmps18
    go_wp2
    go_ret
    exact ⟨⟨_, rfl, fun h => absurd h (by decide)⟩, rfl⟩

end Go.Proofs.Yteckjiaaikdghaa
