/-
  Lemmas and contracts of single functions of this program, used by the proofs of its laws: what each call returns and what becomes of memory. Conditions: the hypotheses of each theorem.
-/
import Derived.Test.YtpimbibmlmjjpaaLeafA
import Derived.Test.YtpimbibmlmjjpaaLibA
import Derived.Test.YtpimbibmlmjjpaaPilePlain
namespace Go.Proofs.Ytpimbibmlmjjpaa
open Go.RowKit

set_option maxHeartbeats 400000 in
theorem labels_any (lo hi : Nat) (v : Value) (xss : List (List Int)) (w : World) (h : IRows w lo hi v xss) (hhi : hi ≤ w.heap.size) (ht : tot xss ≤ 1048576) :
    Calls Try.prog 52 #[v] w fun e w' => ∃ v', e = .returned v' ∧ OwnI w' w.heap.size 3 v' (labelsL xss) ∧ Below w.heap.size w w' := by
  obtain ⟨A, c, vs, rfl, hc, hm, hr, hrow⟩ := h
  unfold maxLen at hm
  go_enter Try.func52, Try.ntmps52
  go_wp2
  go_loopw [3, 4, 5] (fun v i _ wr => ∃ k : Nat, k ≤ xss.length ∧ i = .int .i64 k ∧ OwnI wr w.heap.size 3 v (labelsL (xss.take k)) ∧ Below w.heap.size w wr) (fun _ i _ _ => xss.length - (intOf i).toNat)
  case atStart => exact ⟨0, by omega, rfl, OwnI.empty _ _ _ (Nat.le_refl _), (Below.refl _ _).alloc (Nat.le_refl _) _⟩
  case round =>
    obtain ⟨k, hk, rfl, hown, hb⟩ := hrel
    by_cases hlt : k < xss.length
    · obtain ⟨b, o, rfl, hb1, hb2, hcell0⟩ := IRows.at_ hr hlt
      go_wp2
      obtain ⟨wo, rfl⟩ : ∃ wo : World, wo = wr := ⟨_, rfl⟩
      go_loopw [3, 5] (fun v i wr => ∃ j : Nat, j ≤ (gr xss k).length ∧ i = .int .i64 j ∧ OwnI wr w.heap.size 3 v (seen xss k j) ∧ Below w.heap.size w wr) (fun _ i _ => (gr xss k).length - (intOf i).toNat)
      case atStart => exact ⟨0, by omega, rfl, by rw [seen_zero]; exact hown, hb⟩
      case round =>
        obtain ⟨j, hj, rfl, hown', hb'⟩ := hrel
        clear hown
        obtain ⟨Ai, ci, hvi, hci, hmi, hri, h64⟩ := (hrow k hlt).below hb' hhi
        unfold maxLen at hmi
        have hcell1 := ((hb'.cell (p := ⟨b, o + k, none⟩) (by show b < _; omega)).trans hcell0).trans (congrArg some hvi)
        have Hvi := Lib.hid hvi
        clear hcell0 hvi
        by_cases hjt : j < (gr xss k).length
        · obtain ⟨bi, oi, rfl, hbi, hbi2, hcelli⟩ := Ints.at_ hri hjt
          have hlen := seen_len hlt hj
          have Ht := Lib.hid (seen_succ hjt)
          go_wp2_with (at_builtin; refine wpList_appendI SlI _ rfl (.tmp 30) (.tmp 38) rfl _ w.heap.size _ _ rfl rfl hown' (gi_i64 h64 _) (by omega) hb'.size ?_; intro v' w1 hown1 hg)
          · go_roundw
            case rel => exact ⟨j + 1, by omega, by go_num, by rw [Ht.out, if_pos ‹_›]; exact hown1, hb'.trans hg.below⟩
            case measure => simp [intOf]; omega
          · go_roundw
            case rel => exact ⟨j + 1, by omega, by go_num, by rw [Ht.out, if_neg (by unfold cell; omega)]; exact hown', hb'⟩
            case measure => simp [intOf]; omega
        · go_wp2
          go_roundw
          case rel => exact ⟨k + 1, by omega, by go_num, by rw [← seen_row hlt (i := j) (by omega)]; exact hown', hb'⟩
          case measure => simp [intOf]; omega
    · go_wp2
      go_ret
      have e : k = xss.length := by omega
      exact ⟨_, rfl, by simpa [e] using hown, hb⟩

def heldL : List Int → Int → Int
  | [], k => k
  | x :: t, k => if x = k then heldL t (k + 1) else -1
theorem heldL_cons (x : Int) (t : List Int) (k : Int) : heldL (x :: t) k = if x = k then heldL t (k + 1) else -1 := rfl
theorem heldIntS_any (lo hi : Nat) (v : Value) (xs : List Int) (n : Int) (w : World) (h : Ints w lo hi v xs) (hl : xs.length ≤ 1099511627776) (h0 : 0 ≤ n) (h1 : n ≤ 1099511627776) :
    Calls Try.prog 58 #[v, .int .i64 n] w fun e w' => e = .returned (.int .i64 (heldL xs n)) ∧ w = w' := by
  obtain ⟨A, c, rfl, hc, hm, hr, _⟩ := h
  unfold maxLen at hm
  go_enter Try.func58, Try.ntmps58
  go_wp2
  go_loop [1, 5] (fun m i => ∃ k : Nat, k ≤ xs.length ∧ i = .int .i64 k ∧ m = .int .i64 (n + k) ∧ heldL xs n = heldL (xs.drop k) (n + k)) (fun _ i => xs.length - (intOf i).toNat)
  case atStart => exact ⟨0, by omega, rfl, by simp, by simp⟩
  case round =>
    obtain ⟨k, hk, rfl, rfl, hno⟩ := hrel
    by_cases hlt : k < xs.length
    · have Hno := Lib.hid (hno.trans (by rw [drop_gi hlt, heldL_cons]))
      clear hno
      obtain ⟨b, o, rfl, _, _, hcell⟩ := Ints.at_ hr hlt
      go_wp2
      · go_ret
        exact ⟨ret_int (by rw [Hno.out, if_neg (by simpa using ‹(gi xs k != n + k) = true›)]), rfl⟩
      · go_round
        case rel => exact ⟨k + 1, by omega, by go_num, by go_num, by rw [Hno.out, if_pos (by simpa using ‹(gi xs k != n + k) = false›)]; congr 1; omega⟩
        case measure => simp [intOf]; omega
    · have Hno := Lib.hid (hno.trans (by rw [drop_end (by omega), heldL]))
      clear hno
      go_wp2
      go_ret
      exact ⟨ret_int Hno.out.symm, rfl⟩
def heldLL : List (List Int) → Int → Int
  | [], k => k
  | x :: t, k => if heldL x k < 0 then -1 else heldLL t (heldL x k)
theorem heldLL_cons (x : List Int) (t : List (List Int)) (k : Int) : heldLL (x :: t) k = if heldL x k < 0 then -1 else heldLL t (heldL x k) := rfl
theorem heldL_le : ∀ (xs : List Int) (k : Int), heldL xs k ≤ k + xs.length ∨ heldL xs k = -1
  | [], k => by simp [heldL]
  | x :: t, k => by
    rw [heldL_cons]
    by_cases h : x = k
    · rw [if_pos h]; have := heldL_le t (k + 1); simp only [List.length_cons]; omega
    · rw [if_neg h]; exact .inr rfl
theorem heldIntSS_any (lo hi : Nat) (v : Value) (xs : List (List Int)) (n : Nat) (w : World) (h : IRows w lo hi v xs) (hl : tot xs ≤ 1048576) (h1 : n ≤ 1048576) :
    Calls Try.prog 29 #[v, .int .i64 n] w fun e w' => e = .returned (.int .i64 (heldLL xs n)) ∧ w = w' := by
  obtain ⟨A, c, vs, rfl, hc, hm, hr, hrow⟩ := h
  unfold maxLen at hm
  go_enter Try.func29, Try.ntmps29
  go_wp2
  go_loop [1, 5] (fun m i => ∃ (k : Nat) (z : Int), k ≤ xs.length ∧ i = .int .i64 k ∧ m = .int .i64 z ∧ 0 ≤ z ∧ z ≤ (n : Int) + tot (xs.take k) ∧ heldLL xs n = heldLL (xs.drop k) z) (fun _ i => xs.length - (intOf i).toNat)
  case atStart => exact ⟨0, n, by omega, rfl, rfl, by omega, by simp [tot], by simp⟩
  case round =>
    obtain ⟨k, z, hk, rfl, rfl, hz0, hz1, hno⟩ := hrel
    by_cases hlt : k < xs.length
    · have Hno := Lib.hid (hno.trans (by rw [drop_gr hlt, heldLL_cons]))
      clear hno
      obtain ⟨b, o, rfl, _, _, hcell⟩ := IRows.at_ hr hlt
      have hi1 := hrow k hlt
      have ht := tot_take hlt
      have Ht := Lib.hid (tot_succ hlt)
      have hle := heldL_le (gr xs k) z
      go_wp2_with (go_at_call 58; refine (heldIntS_any _ _ _ _ _ _ hi1 (by omega) hz0 (by omega)).mono ?_; rintro e w' ⟨rfl, rfl⟩)
      · go_ret
        exact ⟨ret_int (by rw [Hno.out, if_pos (by omega)]), rfl⟩
      · go_round
        case rel => exact ⟨k + 1, heldL (gr xs k) z, by omega, by go_num, rfl, by omega, by rw [Ht.out]; omega, by rw [Hno.out, if_neg (by omega)]⟩
        case measure => simp [intOf]; omega
    · have Hno := Lib.hid (hno.trans (by rw [drop_end (by omega), heldLL]))
      clear hno
      go_wp2
      go_ret
      exact ⟨ret_int Hno.out.symm, rfl⟩

theorem lies_any (lo hi : Nat) (v : Value) (p : List (List Int)) (r i : Nat) (w : World) (h : IRows w lo hi v p)
    (hr : r < p.length) (hi : 0 < r → i + 1 < (gr p (r - 1)).length) (hi2 : i < 4294967296) :
    Calls Try.prog 63 #[v, .int .i64 r, .int .i64 i] w fun e w' => e = .returned (.bool (liesB p r i)) ∧ w = w' := by
  obtain ⟨A, c, vs, rfl, hc, hm, hrd, hrow⟩ := h
  unfold maxLen at hm
  rcases Nat.eq_zero_or_pos r with rfl | h0
  · go_enter Try.func63, Try.ntmps63
    go_wp2
    go_ret
    exact ⟨by simp [liesB], rfl⟩
  · obtain ⟨q, rfl⟩ : ∃ q, r = q + 1 := ⟨r - 1, by omega⟩
    have hi' := hi h0
    rw [Nat.add_sub_cancel] at hi'
    obtain ⟨b, o, rfl, hb1, hb2, hcell0⟩ := IRows.at_ hrd (show q < p.length by omega)
    obtain ⟨Ai, ci, hvi, hci, hmi, hri, h64⟩ := hrow q (by omega)
    unfold maxLen at hmi
    have hcell1 := hcell0.trans (congrArg some hvi)
    obtain ⟨bi, oi, rfl, hbi, hbi2, hcelli⟩ := Ints.at_ hri (show i < _ by omega)
    obtain ⟨bi', oi', hh, _, _, hcellj⟩ := Ints.at_ hri hi'
    simp only [Option.some.injEq, Addr.mk.injEq, and_true] at hh
    obtain ⟨rfl, rfl⟩ := hh
    have Hvi := Lib.hid hvi
    have Hf := Lib.hid (show liesB p (q + 1) i = (!(gi (gr p q) i == 0) && !(gi (gr p q) (i + 1) == 0)) by simp [liesB, cell])
    clear hcell0 hvi hi
    have hz : ((q : Int) + 1 == 0) = false := by simp; omega
    go_enter Try.func63, Try.ntmps63
    go_wp2
    all_goals go_ret
    all_goals exact ⟨by rw [Hf.out]; simp [*, bne], rfl⟩
end Go.Proofs.Ytpimbibmlmjjpaa
