/-
  Texts merged into one: what each function does, and plain lemmas. No condition.
-/
import Derived.Test.YtfmpcghlchmomaaDoorTxtI
import Derived.Test.YtfmpcghlchmomaaDoorEvA
import Derived.Laws.StructEq
import Derived.Test.YtfmpcghlchmomaaDoorTxJ
namespace Go.Proofs.YtfmpcghlchmomaaDoor
open Go.RowKit
attribute [local go_sem ↓] Go.wp_at_zero Go.wp_at_succ

set_option maxRecDepth 100000 in
set_option maxHeartbeats 1000000 in
theorem RecoverBookS_any (l : List UInt8) (s : ByteArray) (hs : s = TB l) (w : World) (hl : l.length ≤ 4294967200) :
    Calls Tryd.prog 7 #[.string s] w fun e w' => ∃ v, e = .returned v ∧ OwnT w' w.heap.size 38 7 v (recB l) ∧ Below w.heap.size w w' := by
  have HS := Lib.hid hs
  obtain ⟨R, hR⟩ : ∃ R, R = recB l := ⟨_, rfl⟩
  rw [← hR]
  have HR := Lib.hid hR
  clear hR hs
  go_enter Tryd.func7, Tryd.ntmps7
  go_wp2_with fail
  refine (recoverBookS_any l s HS.out w hl).mono ?_
  rw [← HR.out]
  rintro e w2 ⟨v, rfl, ho, hb⟩
  obtain ⟨A, c, rfl, _⟩ := ho.form
  have HO := Lib.hid ho
  have HB := Lib.hid hb
  clear ho hb
  go_wp2
  go_ret
  exact ⟨.slice A R.length c, rfl, HO.out, HB.out⟩
end Go.Proofs.YtfmpcghlchmomaaDoor

namespace Go.Proofs.YtfmpcghlchmomaaDoor
open Go.RowKit
attribute [local go_sem ↓] Go.wp_at_zero Go.wp_at_succ

set_option maxRecDepth 100000 in
set_option maxHeartbeats 2000000 in
theorem equalEvents_same (l1 h1 l2 h2 : Nat) (v u : Value) (xs : List (List Int)) (w : World) (h : TS w l1 h1 7 v xs) (hh : h1 ≤ w.heap.size) (hy : TS w l2 h2 7 u xs) (hh2 : h2 ≤ w.heap.size) :
    Calls Tryd.prog 6 #[v, u] w fun e w' => e = .returned (.bool true) ∧ Below w.heap.size w w' := by
  obtain ⟨A, c, rfl, hc, hm⟩ := h.form
  obtain ⟨B, d, rfl, hd, hm'⟩ := hy.form
  have hl' : ((xs.length : Int) != (xs.length : Int)) = false := bne_f rfl
  go_enter Tryd.func6, Tryd.ntmps6
  go_wp2
  clear hl'
  go_loopw [5] (fun i wr => ∃ k : Nat, k ≤ xs.length ∧ i = .int .i64 k ∧ Below w.heap.size w wr) (fun i _ => xs.length - (intOf i).toNat)
  case atStart => exact ⟨0, by omega, rfl, Below.refl _ _⟩
  case round =>
    obtain ⟨k, hk, rfl, bw⟩ := hrel
    by_cases hlt : k < xs.length
    · obtain ⟨b, o, rfl, _, _, e0, e1, e2, e3, e4, e5, e6⟩ := (h.below bw hh).c7 hlt
      obtain ⟨b2, o2, rfl, _, _, f0, f1, f2, f3, f4, f5, f6⟩ := (hy.below bw hh2).c7 hlt
      obtain ⟨d0, hd0⟩ : ∃ d, d = gi (gr xs k) 0 := ⟨_, rfl⟩
      rw [← hd0] at e0 f0
      have q0 : (d0 == d0) = true := beq_t rfl
      obtain ⟨d1, hd1⟩ : ∃ d, d = gi (gr xs k) 1 := ⟨_, rfl⟩
      rw [← hd1] at e1 f1
      have q1 : (d1 == d1) = true := beq_t rfl
      obtain ⟨d2, hd2⟩ : ∃ d, d = gi (gr xs k) 2 := ⟨_, rfl⟩
      rw [← hd2] at e2 f2
      have q2 : (d2 == d2) = true := beq_t rfl
      obtain ⟨d3, hd3⟩ : ∃ d, d = gi (gr xs k) 3 := ⟨_, rfl⟩
      rw [← hd3] at e3 f3
      have q3 : (d3 == d3) = true := beq_t rfl
      obtain ⟨d4, hd4⟩ : ∃ d, d = gi (gr xs k) 4 := ⟨_, rfl⟩
      rw [← hd4] at e4 f4
      have q4 : (d4 == d4) = true := beq_t rfl
      obtain ⟨d5, hd5⟩ : ∃ d, d = gi (gr xs k) 5 := ⟨_, rfl⟩
      rw [← hd5] at e5 f5
      have q5 : (d5 == d5) = true := beq_t rfl
      obtain ⟨d6, hd6⟩ : ∃ d, d = gi (gr xs k) 6 := ⟨_, rfl⟩
      rw [← hd6] at e6 f6
      have q6 : (d6 == d6) = true := beq_t rfl
      clear h hy hd0 hd1 hd2 hd3 hd4 hd5 hd6
      have hk0 : (0 : Int) ≤ (k : Int) := by omega
      have hk1 : (k : Int) < (xs.length : Int) := by omega
      go_wp2
      go_region_held3 (fun w' => w'.cell? ⟨b, o + k * 7, none⟩ = some (.int .i64 d0) ∧ w'.cell? ⟨b, o + k * 7 + 1, none⟩ = some (.int .i64 d1) ∧ w'.cell? ⟨b, o + k * 7 + 2, none⟩ = some (.int .i64 d2) ∧ w'.cell? ⟨b, o + k * 7 + 3, none⟩ = some (.int .i64 d3) ∧ w'.cell? ⟨b, o + k * 7 + 4, none⟩ = some (.int .i64 d4) ∧ w'.cell? ⟨b, o + k * 7 + 5, none⟩ = some (.int .i64 d5) ∧ w'.cell? ⟨b, o + k * 7 + 6, none⟩ = some (.int .i64 d6) ∧ w'.cell? ⟨b2, o2 + k * 7, none⟩ = some (.int .i64 d0) ∧ w'.cell? ⟨b2, o2 + k * 7 + 1, none⟩ = some (.int .i64 d1) ∧ w'.cell? ⟨b2, o2 + k * 7 + 2, none⟩ = some (.int .i64 d2) ∧ w'.cell? ⟨b2, o2 + k * 7 + 3, none⟩ = some (.int .i64 d3) ∧ w'.cell? ⟨b2, o2 + k * 7 + 4, none⟩ = some (.int .i64 d4) ∧ w'.cell? ⟨b2, o2 + k * 7 + 5, none⟩ = some (.int .i64 d5) ∧ w'.cell? ⟨b2, o2 + k * 7 + 6, none⟩ = some (.int .i64 d6)) (first | go_keep) (fail)
      go_wp2
      go_roundw
      case rel => exact ⟨k + 1, by omega, by go_num, bw.trans ⟨rfl, rfl, rfl, Nat.le_refl _, fun _ _ => rfl⟩⟩
      case measure => simp [intOf]; omega
    · go_wp2
      go_ret
      exact ⟨rfl, bw⟩
end Go.Proofs.YtfmpcghlchmomaaDoor

namespace Go.Proofs.YtfmpcghlchmomaaDoor
open Go.RowKit
attribute [local go_sem ↓] Go.wp_at_zero Go.wp_at_succ

/-! the book that a text tells: its text is a beginning of the text; a torn text tells a beginning of it -/
theorem splitC_lineQ (c : UInt8) : ∀ (x cur r : List UInt8), (∀ b ∈ x, b ≠ c) → splitC c cur (x ++ c :: r) = (cur ++ x) :: splitC c [] r
  | [], cur, r, _ => by simp [splitC]
  | b :: t, cur, r, h => by
    rw [List.cons_append, splitC, if_neg (h b (by simp)), splitC_lineQ c t (cur ++ [b]) r fun y hy => h y (by simp [hy])]
    simp
theorem line_cut (l : List UInt8) : (∀ b ∈ l, b ≠ 10) ∨ ∃ x r, l = x ++ 10 :: r ∧ ∀ b ∈ x, b ≠ 10 := by
  by_cases h : (10 : UInt8) ∈ l
  · obtain ⟨x, r, rfl, hx⟩ := List.eq_append_cons_of_mem h
    exact .inr ⟨x, r, rfl, fun b hb e => hx (e ▸ hb)⟩
  · exact .inl fun b hb e => h (e ▸ hb)
theorem recE_step (n : Nat) (x : List UInt8) (r : List UInt8) (hx : ∀ b ∈ x, b ≠ 10) : recE (n + 1) (splitC 10 [] (x ++ 10 :: r)) = match parE x with
    | some e => e :: recE n (splitC 10 [] r)
    | none => [] := by
  rw [splitC_lineQ 10 x [] r hx, List.nil_append]
  cases hp : parE x with
  | none => rw [recE_no hp]
  | some e => rw [recE_yes hp (splitC_ne _ _ _)]
theorem recE_noline (n : Nat) (l : List UInt8) (h : ∀ b ∈ l, b ≠ 10) : recE n (splitC 10 [] l) = [] := by
  rw [splitC_take 10 l [] h, recE_one]
theorem parE_nilQ : parE [] = none := rfl
/-- the text of the events is a beginning of the text, with a line for each -/
theorem recE_text : ∀ (n : Nat) (l : List UInt8), fmtJ (recE n (splitC 10 [] l)) <+: l ∧ (fmtJ (recE n (splitC 10 [] l))).count 10 = (recE n (splitC 10 [] l)).length ∧ ∀ e ∈ recE n (splitC 10 [] l), fmtE e ≠ []
  | 0, l => by rw [recE_zero]; exact ⟨List.nil_prefix, rfl, by simp⟩
  | n + 1, l => by
    rcases line_cut l with h | ⟨x, r, rfl, hx⟩
    · rw [recE_noline _ l h]; exact ⟨List.nil_prefix, rfl, by simp⟩
    · rw [recE_step n x r hx]
      cases hp : parE x with
      | none => exact ⟨List.nil_prefix, rfl, by simp⟩
      | some e =>
        simp only
        obtain ⟨h1, h2, h3⟩ := recE_text n r
        have hf := fmt_par hp
        have hJ : ∀ t, fmtJ (e :: t) = x ++ 10 :: fmtJ t := fun t => by unfold fmtJ; rw [List.flatMap_cons, hf]; simp
        have hne : x ≠ [] := fun h9 => by rw [h9, parE_nilQ] at hp; cases hp
        refine ⟨?_, ?_, ?_⟩
        · rw [hJ]
          obtain ⟨s, hs⟩ := h1
          exact ⟨s, by rw [List.append_assoc, List.cons_append, hs]⟩
        · have hc : x.count 10 = 0 := List.count_eq_zero.2 fun hm => hx 10 hm rfl
          rw [hJ, List.count_append, List.count_cons_self, h2, hc, List.length_cons]
          omega
        · intro y hy
          rcases List.mem_cons.1 hy with rfl | hy
          · rw [hf]; exact hne
          · exact h3 y hy
theorem recE_lenQ : ∀ (n : Nat) (L : List (List UInt8)), (recE n L).length ≤ n
  | 0, L => by rw [recE_zero]; simp
  | n + 1, [] => by rw [recE_nil]; simp
  | n + 1, x :: t => by
    cases hp : parE x with
    | none => rw [recE_no hp]; simp
    | some e =>
      cases t with
      | nil => rw [recE_one]; simp
      | cons y t =>
        rw [recE_yes hp (by simp), List.length_cons]
        have := recE_lenQ n (y :: t)
        omega
theorem recB_lenQ (l : List UInt8) : (recB l).length ≤ 60 := recE_lenQ 60 _
theorem recB_text (l : List UInt8) : fmtB (recB l) <+: l ∧ (fmtB (recB l)).count 10 = (recB l).length := by
  obtain ⟨h1, h2, h3⟩ := recE_text 60 l
  have h4 : fmtB (recB l) = fmtJ (recB l) := by
    unfold fmtB
    refine if_pos ⟨recB_lenQ l, ?_⟩
    unfold okF
    rw [List.all_eq_true]
    intro e he
    have := h3 e he
    cases hf : fmtE e with
    | nil => exact absurd hf this
    | cons _ _ => rfl
  rw [h4]
  exact ⟨h1, h2⟩
theorem recE_torn : ∀ (n : Nat) (l : List UInt8) (k : Nat), recE n (splitC 10 [] (l.take k)) <+: recE n (splitC 10 [] l)
  | 0, l, k => by rw [recE_zero, recE_zero]; exact List.nil_prefix
  | n + 1, l, k => by
    rcases line_cut l with h | ⟨x, r, rfl, hx⟩
    · rw [recE_noline _ (l.take k) fun b hb => h b (List.mem_of_mem_take hb)]; exact List.nil_prefix
    · by_cases hk : k ≤ x.length
      · rw [recE_noline _ _ fun b hb => hx b ?_]
        · exact List.nil_prefix
        · rw [List.take_append_of_le_length hk] at hb; exact List.mem_of_mem_take hb
      · have e1 : (x ++ 10 :: r).take k = x ++ 10 :: r.take (k - x.length - 1) := by
          rw [List.take_append, List.take_of_length_le (by omega : x.length ≤ k)]
          obtain ⟨m, hm⟩ : ∃ m, k - x.length = m + 1 := ⟨k - x.length - 1, by omega⟩
          rw [hm, List.take_succ_cons, Nat.add_sub_cancel]
        rw [e1, recE_step n x _ hx, recE_step n x r hx]
        cases parE x with
        | none => exact List.nil_prefix
        | some e =>
          obtain ⟨s, hs⟩ := recE_torn n r (k - x.length - 1)
          exact ⟨s, by simp only; rw [List.cons_append, hs]⟩
theorem recB_torn (l : List UInt8) (k : Nat) : (recB (l.take k)).length ≤ (recB l).length ∧ (recB l).take (recB (l.take k)).length = recB (l.take k) := by
  have h := recE_torn 60 l k
  refine ⟨h.length_le, ?_⟩
  obtain ⟨s, hs⟩ := h
  unfold recB
  rw [← hs, List.take_left]
theorem take_of_prefix {a b : List UInt8} (h : a <+: b) : a.length ≤ b.length ∧ b.take a.length = a := by
  refine ⟨h.length_le, ?_⟩
  obtain ⟨s, hs⟩ := h
  rw [← hs, List.take_left]
theorem fmtB_lenQ (rows : List (List Int)) : (fmtB rows).length ≤ 6060 := by
  unfold fmtB
  split
  · rename_i h
    have key : ∀ rows : List (List Int), (fmtJ rows).length ≤ 101 * rows.length := by
      intro rows
      induction rows with
      | nil => simp [fmtJ]
      | cons e t ih =>
        have h1 : fmtJ (e :: t) = fmtE e ++ [10] ++ fmtJ t := by simp [fmtJ]
        have h2 := fmtE_lenJ e
        rw [h1, List.length_append, List.length_append, List.length_singleton, List.length_cons]
        omega
    have := key rows
    omega
  · simp
end Go.Proofs.YtfmpcghlchmomaaDoor
