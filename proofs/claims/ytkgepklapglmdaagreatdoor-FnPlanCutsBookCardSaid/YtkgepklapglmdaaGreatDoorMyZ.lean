/-
  Texts merged into one: what each function does, and plain lemmas. No condition.
-/
import Derived.Test.YtkgepklapglmdaaGreatDoorMillU
import Derived.Test.YtkgepklapglmdaaGreatDoorMlK
import Derived.Test.YtkgepklapglmdaaGreatDoorTxJ
namespace Go.Proofs.YtkgepklapglmdaaGreatDoor
open Go.RowKit
attribute [local go_sem ↓] Go.wp_at_zero Go.wp_at_succ

end Go.Proofs.YtkgepklapglmdaaGreatDoor

namespace Go.Proofs.YtkgepklapglmdaaGreatDoor
open Go.RowKit
attribute [local go_sem ↓] Go.wp_at_zero Go.wp_at_succ

end Go.Proofs.YtkgepklapglmdaaGreatDoor

namespace Go.Proofs.YtkgepklapglmdaaGreatDoor
open Go.RowKit
attribute [local go_sem ↓] Go.wp_at_zero Go.wp_at_succ

/-! books are read back -/
theorem wrd_10 (k : Int) : ∀ b ∈ wrd k, b ≠ 10 := by
  rcases kind_cases k with rfl | rfl | rfl | rfl | ⟨h0, h1, h2, h3⟩
  · decide
  · decide
  · decide
  · decide
  · unfold wrd; rw [if_neg h0, if_neg h1, if_neg h2, if_neg h3]; simp
theorem dec_10 (n : Nat) : ∀ b ∈ Lib.decDigits n, b ≠ 10 := fun b hb e => by
  have h := (dec_ok n).1
  rw [List.all_eq_true] at h
  have h2 := dgt_iff.1 (h b hb)
  subst e
  have : (10 : UInt8).toNat = 10 := rfl
  omega
theorem fmtE_10 (ev : List Int) : ∀ b ∈ fmtE ev, b ≠ 10 := by
  intro b hb
  unfold fmtE at hb
  split at hb
  · rcases List.mem_append.1 hb with hb | hb
    · exact wrd_10 _ b hb
    · unfold numsT at hb
      obtain ⟨x, _, hx⟩ := List.mem_flatMap.1 hb
      rcases List.mem_cons.1 hx with rfl | hx
      · decide
      · exact dec_10 _ b hx
  · cases hb
theorem splitC_line (c : UInt8) : ∀ (x cur r : List UInt8), (∀ b ∈ x, b ≠ c) → splitC c cur (x ++ c :: r) = (cur ++ x) :: splitC c [] r
  | [], cur, r, _ => by simp [splitC]
  | b :: t, cur, r, h => by
    rw [List.cons_append, splitC, if_neg (h b (by simp)), splitC_line c t (cur ++ [b]) r fun y hy => h y (by simp [hy])]
    simp
theorem split_book : ∀ (rows : List (List Int)) (tl : List UInt8), splitC 10 [] (fmtJ rows ++ tl) = rows.map fmtE ++ splitC 10 [] tl
  | [], tl => by simp [fmtJ]
  | e :: t, tl => by
    have h : fmtJ (e :: t) ++ tl = fmtE e ++ 10 :: (fmtJ t ++ tl) := by simp [fmtJ]
    rw [h, splitC_line 10 _ [] _ (fmtE_10 e), split_book t tl]
    simp
/-- an event as its text tells it -/
def nrm (e : List Int) : List Int := evS (gi e 0) (evN e) (evN e).length
theorem recE_book : ∀ (rows : List (List Int)) (n : Nat) (tl : List (List UInt8)), tl ≠ [] → rows.length ≤ n → (∀ e ∈ rows, fmtE e ≠ []) → recE n (rows.map fmtE ++ tl) = rows.map nrm ++ recE (n - rows.length) tl
  | [], n, tl, _, _, _ => by simp
  | e :: t, n, tl, htl, hn, hne => by
    obtain ⟨ev', h1, _, _, _, h5, _, _⟩ := par_fmt (hne e (by simp))
    obtain ⟨m, rfl⟩ : ∃ m, n = m + 1 := ⟨n - 1, by rw [List.length_cons] at hn; omega⟩
    rw [List.map_cons, List.cons_append, recE_yes h1 (by intro h; rw [List.append_eq_nil_iff] at h; exact htl h.2), recE_book t m tl htl (by rw [List.length_cons] at hn; omega) (fun x hx => hne x (by simp [hx])), h5]
    rw [List.map_cons, List.length_cons, show m + 1 - (t.length + 1) = m - t.length by omega]
    rfl
theorem fmtB_ne {rows : List (List Int)} (h : fmtB rows ≠ []) : rows.length ≤ 60 ∧ (∀ e ∈ rows, fmtE e ≠ []) ∧ fmtB rows = fmtJ rows := by
  unfold fmtB at h ⊢
  split at h
  · rename_i hc
    rw [if_pos hc]
    refine ⟨hc.1, fun e he => ?_, rfl⟩
    have := hc.2
    unfold okF at this
    rw [List.all_eq_true] at this
    have := this e he
    intro e0
    rw [e0] at this
    simp at this
  · exact absurd rfl h
theorem rec_book {rows : List (List Int)} (h : fmtB rows ≠ []) : recB (fmtB rows) = rows.map nrm := by
  obtain ⟨h1, h2, h3⟩ := fmtB_ne h
  unfold recB
  have h4 := split_book rows []
  rw [List.append_nil] at h4
  rw [h3, h4, recE_book rows 60 _ (splitC_ne _ _ _) h1 h2, show splitC 10 [] [] = [[]] from rfl, recE_one, List.append_nil]
end Go.Proofs.YtkgepklapglmdaaGreatDoor
