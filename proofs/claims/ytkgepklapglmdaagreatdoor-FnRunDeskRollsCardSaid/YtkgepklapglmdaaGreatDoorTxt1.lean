/-
  Lemmas and contracts of single functions of this program, used by the proofs of its laws: what each call returns and what becomes of memory. Conditions: the hypotheses of each theorem.
-/
import Derived.Test.YtkgepklapglmdaaGreatDoorMReel
import Derived.Test.YtkgepklapglmdaaGreatDoorShelf
import Derived.Test.YtkgepklapglmdaaGreatDoorLitI
import Derived.Test.YtkgepklapglmdaaGreatDoorPatA
import Derived.Lib.AppendIntMem
import Derived.Lib.SplitLaws
import Derived.Lib.ItoaNum
import Derived.Test.YtkgepklapglmdaaGreatDoorDrw1
namespace Go.Proofs.YtkgepklapglmdaaGreatDoor
open Go.RowKit
attribute [local go_sem ↓] Go.wp_at_zero Go.wp_at_succ

/-- a text of bytes -/
def TB (l : List UInt8) : ByteArray := ⟨l.toArray⟩
theorem TB_size (l : List UInt8) : (TB l).size = l.length := by simp [TB, ByteArray.size]
theorem TB_app (a b : List UInt8) : TB a ++ TB b = TB (a ++ b) := by unfold TB; rw [ByteArray.mk_append_mk]
theorem dec_len {n : Nat} (h : n < 1000000) : 1 ≤ (Lib.decDigits n).length ∧ (Lib.decDigits n).length ≤ 6 := by
  have key : ∀ k m : Nat, m < 10 ^ (k + 1) → (Lib.decDigits m).length ≤ k + 1 := by
    intro k
    induction k with
    | zero => intro m hm; rw [Lib.decDigits_one (by simpa using hm)]; simp
    | succ k ih =>
      intro m hm
      by_cases h1 : m < 10
      · rw [Lib.decDigits_one h1]; simp
      · rw [Lib.decDigits, dif_neg h1, List.length_append, List.length_singleton]
        have := ih (m / 10) (by rw [Nat.pow_succ] at hm; omega)
        omega
  refine ⟨?_, key 5 n (by simpa using h)⟩
  rw [Lib.decDigits]
  split
  · simp
  · simp
set_option maxHeartbeats 1000000 in
theorem number_any : ∀ (m n : Nat) (w : World), n ≤ m → n ≤ 1000000 →
    Calls Tryz.prog 93 #[.int .i64 n] w fun e w' => e = .returned (.string (TB (Lib.decDigits n))) ∧ w = w' := by
  have small : ∀ (n : Nat) (w : World), n < 10 → Calls Tryz.prog 93 #[.int .i64 n] w fun e w' => e = .returned (.string (TB (Lib.decDigits n))) ∧ w = w' := by
    intro n w h
    have h3 : (n : Int) < 10 := by omega
    have HX := Lib.hid ((by decide +kernel : ∀ i : Fin 10, (ByteArray.mk #[48, 49, 50, 51, 52, 53, 54, 55, 56, 57]).extract i (i + 1) = TB [UInt8.ofNat (48 + i)]) ⟨n, h⟩)
    go_enter Tryz.func93, Tryz.ntmps93
    go_wp2
    go_ret
    exact ⟨by rw [Lib.decDigits_one h, ← HX.out]; rfl, rfl⟩
  intro m
  induction m with
  | zero => intro n w h1 h2; exact small n w (by omega)
  | succ m ih =>
    intro n w h1 h2
    by_cases h : n < 10
    · exact small n w h
    · go_enter Tryz.func93, Tryz.ntmps93
      have h3 : ¬ (n : Int) < 10 := by omega
      have hq : (n : Int).tdiv 10 = ((n / 10 : Nat) : Int) := by rw [Int.tdiv_eq_ediv_of_nonneg (by omega)]; omega
      have hr : (n : Int).tmod 10 = ((n % 10 : Nat) : Int) := by rw [Int.tmod_eq_emod_of_nonneg (by omega)]; omega
      have hs1 := (dec_len (n := n / 10) (by omega)).2
      have hs2 := (dec_len (n := n % 10) (by omega)).2
      obtain ⟨A, hA⟩ : ∃ A, A = TB (Lib.decDigits (n / 10)) := ⟨_, rfl⟩
      obtain ⟨B, hB⟩ : ∃ B, B = TB (Lib.decDigits (n % 10)) := ⟨_, rfl⟩
      have sA : A.size ≤ 6 := by rw [hA, TB_size]; exact hs1
      have sB : B.size ≤ 6 := by rw [hB, TB_size]; exact hs2
      have HAB := Lib.hid (show A ++ B = TB (Lib.decDigits n) by
        rw [hA, hB, TB_app]
        conv => rhs; rw [Lib.decDigits, dif_neg h]
        rw [Lib.decDigits_one (show n % 10 < 10 by omega)])
      have HA := Lib.hid hA
      have HB := Lib.hid hB
      have hsum : A.size + B.size ≤ 9223372036854775807 := by omega
      clear hA hB hs1 hs2
      go_wp2_with fail
      refine (ih (n / 10) w (by omega) (by omega)).mono ?_
      rw [← HA.out]
      rintro e w1 ⟨rfl, hw1⟩
      subst hw1
      go_wp2_with fail
      refine (ih (n % 10) w (by omega) (by omega)).mono ?_
      rw [← HB.out]
      rintro e w1 ⟨rfl, hw1⟩
      subst hw1
      go_wp2
      go_ret
      exact ⟨by rw [HAB.out]; rfl, rfl⟩
end Go.Proofs.YtkgepklapglmdaaGreatDoor

namespace Go.Proofs.YtkgepklapglmdaaGreatDoor
open Go.RowKit
attribute [local go_sem ↓] Go.wp_at_zero Go.wp_at_succ

theorem kind_cases (k : Int) : k = 0 ∨ k = 1 ∨ k = 2 ∨ k = 3 ∨ (k ≠ 0 ∧ k ≠ 1 ∧ k ≠ 2 ∧ k ≠ 3) := by omega
/-- the word of a kind -/
def wrd (k : Int) : List UInt8 := if k = 0 then [114, 101, 101, 108] else if k = 1 then [100, 101, 102, 101, 99, 116] else if k = 2 then [99, 117, 116] else if k = 3 then [115, 104, 105, 112] else []
/-- which fields the text has -/
def idxK (k : Int) : List Nat := if k = 0 then [1, 3, 5] else if k = 1 then [1, 2, 3, 4, 5, 6] else if k = 2 then [1, 2, 3, 4, 5] else if k = 3 then [1, 6] else []
theorem idxK_len (k : Int) : (idxK k).length ≤ 6 := by
  rcases kind_cases k with rfl | rfl | rfl | rfl | ⟨h0, h1, h2, h3⟩
  · decide
  · decide
  · decide
  · decide
  · unfold idxK; rw [if_neg h0, if_neg h1, if_neg h2, if_neg h3]; simp
theorem wordOf_any (k : Int) (w : World) : Calls Tryz.prog 79 #[.int .i64 k] w fun e w' => e = .returned (.string (TB (wrd k))) ∧ w = w' := by
  rcases kind_cases k with rfl | rfl | rfl | rfl | ⟨h0, h1, h2, h3⟩
  · go_enter Tryz.func79, Tryz.ntmps79
    go_wp2
    go_ret
    exact ⟨rfl, rfl⟩
  · go_enter Tryz.func79, Tryz.ntmps79
    go_wp2
    go_ret
    exact ⟨rfl, rfl⟩
  · go_enter Tryz.func79, Tryz.ntmps79
    go_wp2
    go_ret
    exact ⟨rfl, rfl⟩
  · go_enter Tryz.func79, Tryz.ntmps79
    go_wp2
    go_ret
    exact ⟨rfl, rfl⟩
  · have e : wrd k = [] := by unfold wrd; rw [if_neg h0, if_neg h1, if_neg h2, if_neg h3]
    rw [e]
    have e0 : (k == 0) = false := beq_f h0
    have e1 : (k == 1) = false := beq_f h1
    have e2 : (k == 2) = false := beq_f h2
    have e3 : (k == 3) = false := beq_f h3
    go_enter Tryz.func79, Tryz.ntmps79
    go_wp2
    go_ret
    exact ⟨rfl, rfl⟩
def NoPost (B : Nat) (k : Int) (w : World) (e : Ending) (w' : World) : Prop := ∃ (A : Option Addr), e = .returned (.slice A (idxK k).length (idxK k).length) ∧ Below w.heap.size w w' ∧ ∀ j, j < (idxK k).length → ∃ g, A = some ⟨g, 0, none⟩ ∧ w.heap.size ≤ g ∧ g < w'.heap.size ∧ w'.cell? ⟨g, j, none⟩ = some (.pointer (some ⟨B, (idxK k).getD j 0, none⟩))
set_option maxRecDepth 100000 in
theorem numbersOfI_any (B : Nat) (k : Int) (w : World) (h : w.cell? ⟨B, 0, none⟩ = some (.int .i64 k)) :
    Calls Tryz.prog 78 #[.pointer (some ⟨B, 0, none⟩)] w fun e w' => NoPost B k w e w' := by
  have HB := Lib.hid h
  rcases kind_cases k with rfl | rfl | rfl | rfl | ⟨h0, h1, h2, h3⟩
  · go_enter Tryz.func78, Tryz.ntmps78
    go_wp2
    refine wp_region_held_drew (S := fun w' => w'.cell? ⟨B, 0, none⟩ = some (.int .i64 0)) (by kernel_rfl) ?_ (fun hHeld => ?_)
    · (first | (try dsimp only); go_keep | (first | exact keepW bg1 (by first | (simp; done) | (simp; omega)) (by assumption)))
    refine wpAnyH_take (i := 0) (oi := ⟨some 13, _, _, _, _, _⟩) (v := _) rfl (by kernel_rfl) (by kernel_rfl) (by kernel_rfl) (fun _ _ _ h => h) (Or.inl ⟨by kernel_rfl, by intro w hSw; (try dsimp only at hSw); go_simp; try with_reducible rfl⟩) (by assumption) ?_
    simp only [Act.put, List.setIfInBounds_toArray, List.set_cons_zero, List.set_cons_succ]
    refine wpAnyH_take (i := 1) (oi := ⟨some 14, _, _, _, _, _⟩) (v := _) rfl (by kernel_rfl) (by kernel_rfl) (by kernel_rfl) (fun _ _ _ h => h) (Or.inl ⟨by kernel_rfl, by intro w hSw; (try dsimp only at hSw); go_simp; try with_reducible rfl⟩) (by assumption) ?_
    simp only [Act.put, List.setIfInBounds_toArray, List.set_cons_zero, List.set_cons_succ]
    refine wpAnyH_take (i := 2) (oi := ⟨some 15, _, _, _, _, _⟩) (v := _) rfl (by kernel_rfl) (by kernel_rfl) (by kernel_rfl) (fun _ _ _ h => h) (Or.inl ⟨by kernel_rfl, by intro w hSw; (try dsimp only at hSw); go_simp; try with_reducible rfl⟩) (by assumption) ?_
    simp only [Act.put, List.setIfInBounds_toArray, List.set_cons_zero, List.set_cons_succ]
    refine wpAnyH_take (i := 3) (oi := ⟨some 16, _, _, _, _, _⟩) (v := _) rfl (by kernel_rfl) (by kernel_rfl) (by kernel_rfl) (fun _ _ _ h => h) (Or.inl ⟨by kernel_rfl, by intro w hSw; (try dsimp only at hSw); go_simp; try with_reducible rfl⟩) (by assumption) ?_
    simp only [Act.put, List.setIfInBounds_toArray, List.set_cons_zero, List.set_cons_succ]
    refine wpAnyH_take (i := 4) (oi := ⟨some 17, _, _, _, _, _⟩) (v := _) rfl (by kernel_rfl) (by kernel_rfl) (by kernel_rfl) (fun _ _ _ h => h) (Or.inl ⟨by kernel_rfl, by intro w hSw; (try dsimp only at hSw); go_simp; try with_reducible rfl⟩) (by assumption) ?_
    simp only [Act.put, List.setIfInBounds_toArray, List.set_cons_zero, List.set_cons_succ]
    refine wpAnyH_take (i := 5) (oi := ⟨some 18, _, _, _, _, _⟩) (v := _) rfl (by kernel_rfl) (by kernel_rfl) (by kernel_rfl) (fun _ _ _ h => h) (Or.inl ⟨by kernel_rfl, by intro w hSw; (try dsimp only at hSw); go_simp; try with_reducible rfl⟩) (by assumption) ?_
    simp only [Act.put, List.setIfInBounds_toArray, List.set_cons_zero, List.set_cons_succ]
    refine wpAnyH_take (i := 6) (oi := ⟨some 19, _, _, _, _, _⟩) (v := _) rfl (by kernel_rfl) (by kernel_rfl) (by kernel_rfl) (fun _ _ _ h => h) (Or.inl ⟨by kernel_rfl, by intro w hSw; (try dsimp only at hSw); go_simp; try with_reducible rfl⟩) (by assumption) ?_
    simp only [Act.put, List.setIfInBounds_toArray, List.set_cons_zero, List.set_cons_succ]
    refine wpAnyH_take (i := 7) (oi := ⟨some 20, _, _, _, _, _⟩) (v := _) rfl (by kernel_rfl) (by kernel_rfl) (by kernel_rfl) (fun _ _ _ h => h) (Or.inl ⟨by kernel_rfl, by intro w hSw; (try dsimp only at hSw); go_simp; try with_reducible rfl⟩) (by assumption) ?_
    simp only [Act.put, List.setIfInBounds_toArray, List.set_cons_zero, List.set_cons_succ]
    refine wpAnyH_take (i := 8) (oi := ⟨some 21, _, _, _, _, _⟩) (v := _) rfl (by kernel_rfl) (by kernel_rfl) (by kernel_rfl) (fun _ _ _ h => h) (Or.inl ⟨by kernel_rfl, by intro w hSw; (try dsimp only at hSw); go_simp; try with_reducible rfl⟩) (by assumption) ?_
    simp only [Act.put, List.setIfInBounds_toArray, List.set_cons_zero, List.set_cons_succ]
    refine wpAnyH_ready (rs := [9]) (by kernel_rfl) (by simp) ?_
    refine AllReadyH.cons (o := ⟨some 22, _, _, _, _, _⟩) rfl (fun K hK => ?_) AllReadyH.nil
    go_simp
    refine hK.out _ _ ?_ (fun hHeld2 => ?_)
    · (first | (try dsimp only); go_keep | (first | exact keepW bg1 (by first | (simp; done) | (simp; omega)) (by assumption)))
    clear hK K hHeld
    have hHeld := hHeld2
    clear hHeld2
    try simp only [Act.put, List.setIfInBounds_toArray, List.set_cons_zero, List.set_cons_succ]
    refine wpAnyH_take (i := 10) (oi := ⟨some 2, _, _, _, _, _⟩) (v := _) rfl (by kernel_rfl) (by kernel_rfl) (by kernel_rfl) (fun _ _ _ h => h) (Or.inl ⟨by kernel_rfl, by intro w hSw; (try dsimp only at hSw); go_simp; try with_reducible rfl⟩) (by assumption) ?_
    simp only [Act.put, List.setIfInBounds_toArray, List.set_cons_zero, List.set_cons_succ]
    refine wpAnyH_done (by kernel_rfl) ?_ _
    clear hHeld
    go_wp2
    go_ret
    refine ⟨some ⟨w.heap.size, 0, none⟩, rfl, ((Below.refl _ _).alloc (Nat.le_refl _) _).drew, fun j hj => ⟨w.heap.size, rfl, Nat.le_refl _, by simp, ?_⟩⟩
    have hj3 : j < 3 := hj
    obtain rfl | rfl | rfl : j = 0 ∨ j = 1 ∨ j = 2 := by omega
    · go_simp; rfl
    · go_simp; rfl
    · go_simp; rfl
  · go_enter Tryz.func78, Tryz.ntmps78
    go_wp2
    refine wp_region_held_drew (S := fun w' => w'.cell? ⟨B, 0, none⟩ = some (.int .i64 1)) (by kernel_rfl) ?_ (fun hHeld => ?_)
    · (first | (try dsimp only); go_keep | (first | exact keepW bg1 (by first | (simp; done) | (simp; omega)) (by assumption)))
    refine wpAnyH_take (i := 0) (oi := ⟨some 25, _, _, _, _, _⟩) (v := _) rfl (by kernel_rfl) (by kernel_rfl) (by kernel_rfl) (fun _ _ _ h => h) (Or.inl ⟨by kernel_rfl, by intro w hSw; (try dsimp only at hSw); go_simp; try with_reducible rfl⟩) (by assumption) ?_
    simp only [Act.put, List.setIfInBounds_toArray, List.set_cons_zero, List.set_cons_succ]
    refine wpAnyH_take (i := 1) (oi := ⟨some 26, _, _, _, _, _⟩) (v := _) rfl (by kernel_rfl) (by kernel_rfl) (by kernel_rfl) (fun _ _ _ h => h) (Or.inl ⟨by kernel_rfl, by intro w hSw; (try dsimp only at hSw); go_simp; try with_reducible rfl⟩) (by assumption) ?_
    simp only [Act.put, List.setIfInBounds_toArray, List.set_cons_zero, List.set_cons_succ]
    refine wpAnyH_take (i := 2) (oi := ⟨some 27, _, _, _, _, _⟩) (v := _) rfl (by kernel_rfl) (by kernel_rfl) (by kernel_rfl) (fun _ _ _ h => h) (Or.inl ⟨by kernel_rfl, by intro w hSw; (try dsimp only at hSw); go_simp; try with_reducible rfl⟩) (by assumption) ?_
    simp only [Act.put, List.setIfInBounds_toArray, List.set_cons_zero, List.set_cons_succ]
    refine wpAnyH_take (i := 3) (oi := ⟨some 28, _, _, _, _, _⟩) (v := _) rfl (by kernel_rfl) (by kernel_rfl) (by kernel_rfl) (fun _ _ _ h => h) (Or.inl ⟨by kernel_rfl, by intro w hSw; (try dsimp only at hSw); go_simp; try with_reducible rfl⟩) (by assumption) ?_
    simp only [Act.put, List.setIfInBounds_toArray, List.set_cons_zero, List.set_cons_succ]
    refine wpAnyH_take (i := 4) (oi := ⟨some 29, _, _, _, _, _⟩) (v := _) rfl (by kernel_rfl) (by kernel_rfl) (by kernel_rfl) (fun _ _ _ h => h) (Or.inl ⟨by kernel_rfl, by intro w hSw; (try dsimp only at hSw); go_simp; try with_reducible rfl⟩) (by assumption) ?_
    simp only [Act.put, List.setIfInBounds_toArray, List.set_cons_zero, List.set_cons_succ]
    refine wpAnyH_take (i := 5) (oi := ⟨some 30, _, _, _, _, _⟩) (v := _) rfl (by kernel_rfl) (by kernel_rfl) (by kernel_rfl) (fun _ _ _ h => h) (Or.inl ⟨by kernel_rfl, by intro w hSw; (try dsimp only at hSw); go_simp; try with_reducible rfl⟩) (by assumption) ?_
    simp only [Act.put, List.setIfInBounds_toArray, List.set_cons_zero, List.set_cons_succ]
    refine wpAnyH_take (i := 6) (oi := ⟨some 31, _, _, _, _, _⟩) (v := _) rfl (by kernel_rfl) (by kernel_rfl) (by kernel_rfl) (fun _ _ _ h => h) (Or.inl ⟨by kernel_rfl, by intro w hSw; (try dsimp only at hSw); go_simp; try with_reducible rfl⟩) (by assumption) ?_
    simp only [Act.put, List.setIfInBounds_toArray, List.set_cons_zero, List.set_cons_succ]
    refine wpAnyH_take (i := 7) (oi := ⟨some 32, _, _, _, _, _⟩) (v := _) rfl (by kernel_rfl) (by kernel_rfl) (by kernel_rfl) (fun _ _ _ h => h) (Or.inl ⟨by kernel_rfl, by intro w hSw; (try dsimp only at hSw); go_simp; try with_reducible rfl⟩) (by assumption) ?_
    simp only [Act.put, List.setIfInBounds_toArray, List.set_cons_zero, List.set_cons_succ]
    refine wpAnyH_take (i := 8) (oi := ⟨some 33, _, _, _, _, _⟩) (v := _) rfl (by kernel_rfl) (by kernel_rfl) (by kernel_rfl) (fun _ _ _ h => h) (Or.inl ⟨by kernel_rfl, by intro w hSw; (try dsimp only at hSw); go_simp; try with_reducible rfl⟩) (by assumption) ?_
    simp only [Act.put, List.setIfInBounds_toArray, List.set_cons_zero, List.set_cons_succ]
    refine wpAnyH_take (i := 9) (oi := ⟨some 34, _, _, _, _, _⟩) (v := _) rfl (by kernel_rfl) (by kernel_rfl) (by kernel_rfl) (fun _ _ _ h => h) (Or.inl ⟨by kernel_rfl, by intro w hSw; (try dsimp only at hSw); go_simp; try with_reducible rfl⟩) (by assumption) ?_
    simp only [Act.put, List.setIfInBounds_toArray, List.set_cons_zero, List.set_cons_succ]
    refine wpAnyH_take (i := 10) (oi := ⟨some 35, _, _, _, _, _⟩) (v := _) rfl (by kernel_rfl) (by kernel_rfl) (by kernel_rfl) (fun _ _ _ h => h) (Or.inl ⟨by kernel_rfl, by intro w hSw; (try dsimp only at hSw); go_simp; try with_reducible rfl⟩) (by assumption) ?_
    simp only [Act.put, List.setIfInBounds_toArray, List.set_cons_zero, List.set_cons_succ]
    refine wpAnyH_take (i := 11) (oi := ⟨some 36, _, _, _, _, _⟩) (v := _) rfl (by kernel_rfl) (by kernel_rfl) (by kernel_rfl) (fun _ _ _ h => h) (Or.inl ⟨by kernel_rfl, by intro w hSw; (try dsimp only at hSw); go_simp; try with_reducible rfl⟩) (by assumption) ?_
    simp only [Act.put, List.setIfInBounds_toArray, List.set_cons_zero, List.set_cons_succ]
    refine wpAnyH_take (i := 12) (oi := ⟨some 37, _, _, _, _, _⟩) (v := _) rfl (by kernel_rfl) (by kernel_rfl) (by kernel_rfl) (fun _ _ _ h => h) (Or.inl ⟨by kernel_rfl, by intro w hSw; (try dsimp only at hSw); go_simp; try with_reducible rfl⟩) (by assumption) ?_
    simp only [Act.put, List.setIfInBounds_toArray, List.set_cons_zero, List.set_cons_succ]
    refine wpAnyH_take (i := 13) (oi := ⟨some 38, _, _, _, _, _⟩) (v := _) rfl (by kernel_rfl) (by kernel_rfl) (by kernel_rfl) (fun _ _ _ h => h) (Or.inl ⟨by kernel_rfl, by intro w hSw; (try dsimp only at hSw); go_simp; try with_reducible rfl⟩) (by assumption) ?_
    simp only [Act.put, List.setIfInBounds_toArray, List.set_cons_zero, List.set_cons_succ]
    refine wpAnyH_take (i := 14) (oi := ⟨some 39, _, _, _, _, _⟩) (v := _) rfl (by kernel_rfl) (by kernel_rfl) (by kernel_rfl) (fun _ _ _ h => h) (Or.inl ⟨by kernel_rfl, by intro w hSw; (try dsimp only at hSw); go_simp; try with_reducible rfl⟩) (by assumption) ?_
    simp only [Act.put, List.setIfInBounds_toArray, List.set_cons_zero, List.set_cons_succ]
    refine wpAnyH_take (i := 15) (oi := ⟨some 40, _, _, _, _, _⟩) (v := _) rfl (by kernel_rfl) (by kernel_rfl) (by kernel_rfl) (fun _ _ _ h => h) (Or.inl ⟨by kernel_rfl, by intro w hSw; (try dsimp only at hSw); go_simp; try with_reducible rfl⟩) (by assumption) ?_
    simp only [Act.put, List.setIfInBounds_toArray, List.set_cons_zero, List.set_cons_succ]
    refine wpAnyH_take (i := 16) (oi := ⟨some 41, _, _, _, _, _⟩) (v := _) rfl (by kernel_rfl) (by kernel_rfl) (by kernel_rfl) (fun _ _ _ h => h) (Or.inl ⟨by kernel_rfl, by intro w hSw; (try dsimp only at hSw); go_simp; try with_reducible rfl⟩) (by assumption) ?_
    simp only [Act.put, List.setIfInBounds_toArray, List.set_cons_zero, List.set_cons_succ]
    refine wpAnyH_take (i := 17) (oi := ⟨some 42, _, _, _, _, _⟩) (v := _) rfl (by kernel_rfl) (by kernel_rfl) (by kernel_rfl) (fun _ _ _ h => h) (Or.inl ⟨by kernel_rfl, by intro w hSw; (try dsimp only at hSw); go_simp; try with_reducible rfl⟩) (by assumption) ?_
    simp only [Act.put, List.setIfInBounds_toArray, List.set_cons_zero, List.set_cons_succ]
    refine wpAnyH_ready (rs := [18]) (by kernel_rfl) (by simp) ?_
    refine AllReadyH.cons (o := ⟨some 43, _, _, _, _, _⟩) rfl (fun K hK => ?_) AllReadyH.nil
    go_simp
    refine hK.out _ _ ?_ (fun hHeld2 => ?_)
    · (first | (try dsimp only); go_keep | (first | exact keepW bg1 (by first | (simp; done) | (simp; omega)) (by assumption)))
    clear hK K hHeld
    have hHeld := hHeld2
    clear hHeld2
    try simp only [Act.put, List.setIfInBounds_toArray, List.set_cons_zero, List.set_cons_succ]
    refine wpAnyH_take (i := 19) (oi := ⟨some 2, _, _, _, _, _⟩) (v := _) rfl (by kernel_rfl) (by kernel_rfl) (by kernel_rfl) (fun _ _ _ h => h) (Or.inl ⟨by kernel_rfl, by intro w hSw; (try dsimp only at hSw); go_simp; try with_reducible rfl⟩) (by assumption) ?_
    simp only [Act.put, List.setIfInBounds_toArray, List.set_cons_zero, List.set_cons_succ]
    refine wpAnyH_done (by kernel_rfl) ?_ _
    clear hHeld
    go_wp2
    go_ret
    refine ⟨some ⟨w.heap.size, 0, none⟩, rfl, ((Below.refl _ _).alloc (Nat.le_refl _) _).drew, fun j hj => ⟨w.heap.size, rfl, Nat.le_refl _, by simp, ?_⟩⟩
    have hj6 : j < 6 := hj
    obtain rfl | rfl | rfl | rfl | rfl | rfl : j = 0 ∨ j = 1 ∨ j = 2 ∨ j = 3 ∨ j = 4 ∨ j = 5 := by omega
    · go_simp; rfl
    · go_simp; rfl
    · go_simp; rfl
    · go_simp; rfl
    · go_simp; rfl
    · go_simp; rfl
  · go_enter Tryz.func78, Tryz.ntmps78
    go_wp2
    refine wp_region_held_drew (S := fun w' => w'.cell? ⟨B, 0, none⟩ = some (.int .i64 2)) (by kernel_rfl) ?_ (fun hHeld => ?_)
    · (first | (try dsimp only); go_keep | (first | exact keepW bg1 (by first | (simp; done) | (simp; omega)) (by assumption)))
    refine wpAnyH_take (i := 0) (oi := ⟨some 46, _, _, _, _, _⟩) (v := _) rfl (by kernel_rfl) (by kernel_rfl) (by kernel_rfl) (fun _ _ _ h => h) (Or.inl ⟨by kernel_rfl, by intro w hSw; (try dsimp only at hSw); go_simp; try with_reducible rfl⟩) (by assumption) ?_
    simp only [Act.put, List.setIfInBounds_toArray, List.set_cons_zero, List.set_cons_succ]
    refine wpAnyH_take (i := 1) (oi := ⟨some 47, _, _, _, _, _⟩) (v := _) rfl (by kernel_rfl) (by kernel_rfl) (by kernel_rfl) (fun _ _ _ h => h) (Or.inl ⟨by kernel_rfl, by intro w hSw; (try dsimp only at hSw); go_simp; try with_reducible rfl⟩) (by assumption) ?_
    simp only [Act.put, List.setIfInBounds_toArray, List.set_cons_zero, List.set_cons_succ]
    refine wpAnyH_take (i := 2) (oi := ⟨some 48, _, _, _, _, _⟩) (v := _) rfl (by kernel_rfl) (by kernel_rfl) (by kernel_rfl) (fun _ _ _ h => h) (Or.inl ⟨by kernel_rfl, by intro w hSw; (try dsimp only at hSw); go_simp; try with_reducible rfl⟩) (by assumption) ?_
    simp only [Act.put, List.setIfInBounds_toArray, List.set_cons_zero, List.set_cons_succ]
    refine wpAnyH_take (i := 3) (oi := ⟨some 49, _, _, _, _, _⟩) (v := _) rfl (by kernel_rfl) (by kernel_rfl) (by kernel_rfl) (fun _ _ _ h => h) (Or.inl ⟨by kernel_rfl, by intro w hSw; (try dsimp only at hSw); go_simp; try with_reducible rfl⟩) (by assumption) ?_
    simp only [Act.put, List.setIfInBounds_toArray, List.set_cons_zero, List.set_cons_succ]
    refine wpAnyH_take (i := 4) (oi := ⟨some 50, _, _, _, _, _⟩) (v := _) rfl (by kernel_rfl) (by kernel_rfl) (by kernel_rfl) (fun _ _ _ h => h) (Or.inl ⟨by kernel_rfl, by intro w hSw; (try dsimp only at hSw); go_simp; try with_reducible rfl⟩) (by assumption) ?_
    simp only [Act.put, List.setIfInBounds_toArray, List.set_cons_zero, List.set_cons_succ]
    refine wpAnyH_take (i := 5) (oi := ⟨some 51, _, _, _, _, _⟩) (v := _) rfl (by kernel_rfl) (by kernel_rfl) (by kernel_rfl) (fun _ _ _ h => h) (Or.inl ⟨by kernel_rfl, by intro w hSw; (try dsimp only at hSw); go_simp; try with_reducible rfl⟩) (by assumption) ?_
    simp only [Act.put, List.setIfInBounds_toArray, List.set_cons_zero, List.set_cons_succ]
    refine wpAnyH_take (i := 6) (oi := ⟨some 52, _, _, _, _, _⟩) (v := _) rfl (by kernel_rfl) (by kernel_rfl) (by kernel_rfl) (fun _ _ _ h => h) (Or.inl ⟨by kernel_rfl, by intro w hSw; (try dsimp only at hSw); go_simp; try with_reducible rfl⟩) (by assumption) ?_
    simp only [Act.put, List.setIfInBounds_toArray, List.set_cons_zero, List.set_cons_succ]
    refine wpAnyH_take (i := 7) (oi := ⟨some 53, _, _, _, _, _⟩) (v := _) rfl (by kernel_rfl) (by kernel_rfl) (by kernel_rfl) (fun _ _ _ h => h) (Or.inl ⟨by kernel_rfl, by intro w hSw; (try dsimp only at hSw); go_simp; try with_reducible rfl⟩) (by assumption) ?_
    simp only [Act.put, List.setIfInBounds_toArray, List.set_cons_zero, List.set_cons_succ]
    refine wpAnyH_take (i := 8) (oi := ⟨some 54, _, _, _, _, _⟩) (v := _) rfl (by kernel_rfl) (by kernel_rfl) (by kernel_rfl) (fun _ _ _ h => h) (Or.inl ⟨by kernel_rfl, by intro w hSw; (try dsimp only at hSw); go_simp; try with_reducible rfl⟩) (by assumption) ?_
    simp only [Act.put, List.setIfInBounds_toArray, List.set_cons_zero, List.set_cons_succ]
    refine wpAnyH_take (i := 9) (oi := ⟨some 55, _, _, _, _, _⟩) (v := _) rfl (by kernel_rfl) (by kernel_rfl) (by kernel_rfl) (fun _ _ _ h => h) (Or.inl ⟨by kernel_rfl, by intro w hSw; (try dsimp only at hSw); go_simp; try with_reducible rfl⟩) (by assumption) ?_
    simp only [Act.put, List.setIfInBounds_toArray, List.set_cons_zero, List.set_cons_succ]
    refine wpAnyH_take (i := 10) (oi := ⟨some 56, _, _, _, _, _⟩) (v := _) rfl (by kernel_rfl) (by kernel_rfl) (by kernel_rfl) (fun _ _ _ h => h) (Or.inl ⟨by kernel_rfl, by intro w hSw; (try dsimp only at hSw); go_simp; try with_reducible rfl⟩) (by assumption) ?_
    simp only [Act.put, List.setIfInBounds_toArray, List.set_cons_zero, List.set_cons_succ]
    refine wpAnyH_take (i := 11) (oi := ⟨some 57, _, _, _, _, _⟩) (v := _) rfl (by kernel_rfl) (by kernel_rfl) (by kernel_rfl) (fun _ _ _ h => h) (Or.inl ⟨by kernel_rfl, by intro w hSw; (try dsimp only at hSw); go_simp; try with_reducible rfl⟩) (by assumption) ?_
    simp only [Act.put, List.setIfInBounds_toArray, List.set_cons_zero, List.set_cons_succ]
    refine wpAnyH_take (i := 12) (oi := ⟨some 58, _, _, _, _, _⟩) (v := _) rfl (by kernel_rfl) (by kernel_rfl) (by kernel_rfl) (fun _ _ _ h => h) (Or.inl ⟨by kernel_rfl, by intro w hSw; (try dsimp only at hSw); go_simp; try with_reducible rfl⟩) (by assumption) ?_
    simp only [Act.put, List.setIfInBounds_toArray, List.set_cons_zero, List.set_cons_succ]
    refine wpAnyH_take (i := 13) (oi := ⟨some 59, _, _, _, _, _⟩) (v := _) rfl (by kernel_rfl) (by kernel_rfl) (by kernel_rfl) (fun _ _ _ h => h) (Or.inl ⟨by kernel_rfl, by intro w hSw; (try dsimp only at hSw); go_simp; try with_reducible rfl⟩) (by assumption) ?_
    simp only [Act.put, List.setIfInBounds_toArray, List.set_cons_zero, List.set_cons_succ]
    refine wpAnyH_take (i := 14) (oi := ⟨some 60, _, _, _, _, _⟩) (v := _) rfl (by kernel_rfl) (by kernel_rfl) (by kernel_rfl) (fun _ _ _ h => h) (Or.inl ⟨by kernel_rfl, by intro w hSw; (try dsimp only at hSw); go_simp; try with_reducible rfl⟩) (by assumption) ?_
    simp only [Act.put, List.setIfInBounds_toArray, List.set_cons_zero, List.set_cons_succ]
    refine wpAnyH_ready (rs := [15]) (by kernel_rfl) (by simp) ?_
    refine AllReadyH.cons (o := ⟨some 61, _, _, _, _, _⟩) rfl (fun K hK => ?_) AllReadyH.nil
    go_simp
    refine hK.out _ _ ?_ (fun hHeld2 => ?_)
    · (first | (try dsimp only); go_keep | (first | exact keepW bg1 (by first | (simp; done) | (simp; omega)) (by assumption)))
    clear hK K hHeld
    have hHeld := hHeld2
    clear hHeld2
    try simp only [Act.put, List.setIfInBounds_toArray, List.set_cons_zero, List.set_cons_succ]
    refine wpAnyH_take (i := 16) (oi := ⟨some 2, _, _, _, _, _⟩) (v := _) rfl (by kernel_rfl) (by kernel_rfl) (by kernel_rfl) (fun _ _ _ h => h) (Or.inl ⟨by kernel_rfl, by intro w hSw; (try dsimp only at hSw); go_simp; try with_reducible rfl⟩) (by assumption) ?_
    simp only [Act.put, List.setIfInBounds_toArray, List.set_cons_zero, List.set_cons_succ]
    refine wpAnyH_done (by kernel_rfl) ?_ _
    clear hHeld
    go_wp2
    go_ret
    refine ⟨some ⟨w.heap.size, 0, none⟩, rfl, ((Below.refl _ _).alloc (Nat.le_refl _) _).drew, fun j hj => ⟨w.heap.size, rfl, Nat.le_refl _, by simp, ?_⟩⟩
    have hj5 : j < 5 := hj
    obtain rfl | rfl | rfl | rfl | rfl : j = 0 ∨ j = 1 ∨ j = 2 ∨ j = 3 ∨ j = 4 := by omega
    · go_simp; rfl
    · go_simp; rfl
    · go_simp; rfl
    · go_simp; rfl
    · go_simp; rfl
  · go_enter Tryz.func78, Tryz.ntmps78
    go_wp2
    refine wp_region_held_drew (S := fun w' => w'.cell? ⟨B, 0, none⟩ = some (.int .i64 3)) (by kernel_rfl) ?_ (fun hHeld => ?_)
    · (first | (try dsimp only); go_keep | (first | exact keepW bg1 (by first | (simp; done) | (simp; omega)) (by assumption)))
    refine wpAnyH_take (i := 0) (oi := ⟨some 64, _, _, _, _, _⟩) (v := _) rfl (by kernel_rfl) (by kernel_rfl) (by kernel_rfl) (fun _ _ _ h => h) (Or.inl ⟨by kernel_rfl, by intro w hSw; (try dsimp only at hSw); go_simp; try with_reducible rfl⟩) (by assumption) ?_
    simp only [Act.put, List.setIfInBounds_toArray, List.set_cons_zero, List.set_cons_succ]
    refine wpAnyH_take (i := 1) (oi := ⟨some 65, _, _, _, _, _⟩) (v := _) rfl (by kernel_rfl) (by kernel_rfl) (by kernel_rfl) (fun _ _ _ h => h) (Or.inl ⟨by kernel_rfl, by intro w hSw; (try dsimp only at hSw); go_simp; try with_reducible rfl⟩) (by assumption) ?_
    simp only [Act.put, List.setIfInBounds_toArray, List.set_cons_zero, List.set_cons_succ]
    refine wpAnyH_take (i := 2) (oi := ⟨some 66, _, _, _, _, _⟩) (v := _) rfl (by kernel_rfl) (by kernel_rfl) (by kernel_rfl) (fun _ _ _ h => h) (Or.inl ⟨by kernel_rfl, by intro w hSw; (try dsimp only at hSw); go_simp; try with_reducible rfl⟩) (by assumption) ?_
    simp only [Act.put, List.setIfInBounds_toArray, List.set_cons_zero, List.set_cons_succ]
    refine wpAnyH_take (i := 3) (oi := ⟨some 67, _, _, _, _, _⟩) (v := _) rfl (by kernel_rfl) (by kernel_rfl) (by kernel_rfl) (fun _ _ _ h => h) (Or.inl ⟨by kernel_rfl, by intro w hSw; (try dsimp only at hSw); go_simp; try with_reducible rfl⟩) (by assumption) ?_
    simp only [Act.put, List.setIfInBounds_toArray, List.set_cons_zero, List.set_cons_succ]
    refine wpAnyH_take (i := 4) (oi := ⟨some 68, _, _, _, _, _⟩) (v := _) rfl (by kernel_rfl) (by kernel_rfl) (by kernel_rfl) (fun _ _ _ h => h) (Or.inl ⟨by kernel_rfl, by intro w hSw; (try dsimp only at hSw); go_simp; try with_reducible rfl⟩) (by assumption) ?_
    simp only [Act.put, List.setIfInBounds_toArray, List.set_cons_zero, List.set_cons_succ]
    refine wpAnyH_take (i := 5) (oi := ⟨some 69, _, _, _, _, _⟩) (v := _) rfl (by kernel_rfl) (by kernel_rfl) (by kernel_rfl) (fun _ _ _ h => h) (Or.inl ⟨by kernel_rfl, by intro w hSw; (try dsimp only at hSw); go_simp; try with_reducible rfl⟩) (by assumption) ?_
    simp only [Act.put, List.setIfInBounds_toArray, List.set_cons_zero, List.set_cons_succ]
    refine wpAnyH_ready (rs := [6]) (by kernel_rfl) (by simp) ?_
    refine AllReadyH.cons (o := ⟨some 70, _, _, _, _, _⟩) rfl (fun K hK => ?_) AllReadyH.nil
    go_simp
    refine hK.out _ _ ?_ (fun hHeld2 => ?_)
    · (first | (try dsimp only); go_keep | (first | exact keepW bg1 (by first | (simp; done) | (simp; omega)) (by assumption)))
    clear hK K hHeld
    have hHeld := hHeld2
    clear hHeld2
    try simp only [Act.put, List.setIfInBounds_toArray, List.set_cons_zero, List.set_cons_succ]
    refine wpAnyH_take (i := 7) (oi := ⟨some 2, _, _, _, _, _⟩) (v := _) rfl (by kernel_rfl) (by kernel_rfl) (by kernel_rfl) (fun _ _ _ h => h) (Or.inl ⟨by kernel_rfl, by intro w hSw; (try dsimp only at hSw); go_simp; try with_reducible rfl⟩) (by assumption) ?_
    simp only [Act.put, List.setIfInBounds_toArray, List.set_cons_zero, List.set_cons_succ]
    refine wpAnyH_done (by kernel_rfl) ?_ _
    clear hHeld
    go_wp2
    go_ret
    refine ⟨some ⟨w.heap.size, 0, none⟩, rfl, ((Below.refl _ _).alloc (Nat.le_refl _) _).drew, fun j hj => ⟨w.heap.size, rfl, Nat.le_refl _, by simp, ?_⟩⟩
    have hj2 : j < 2 := hj
    obtain rfl | rfl : j = 0 ∨ j = 1 := by omega
    · go_simp; rfl
    · go_simp; rfl
  · have e : idxK k = [] := by unfold idxK; rw [if_neg h0, if_neg h1, if_neg h2, if_neg h3]
    have e0 : (k == 0) = false := beq_f h0
    have e1 : (k == 1) = false := beq_f h1
    have e2 : (k == 2) = false := beq_f h2
    have e3 : (k == 3) = false := beq_f h3
    have HE := Lib.hid e
    clear e
    go_enter Tryz.func78, Tryz.ntmps78
    go_wp2
    go_ret
    exact ⟨none, by rw [HE.out]; rfl, Below.refl _ _, fun j hj => by rw [HE.out] at hj; exact absurd hj (by simp)⟩
/-- the numbers of an event that its text has -/
def evN (ev : List Int) : List Int := (idxK (gi ev 0)).map (gi ev)

set_option maxRecDepth 100000 in
theorem numbersOfS_any (k a l r f t g : Int) (w : World) (ha : I64 a ∧ I64 l ∧ I64 r ∧ I64 f ∧ I64 t ∧ I64 g) :
    Calls Tryz.prog 148 #[.agg #[.int .i64 k, .int .i64 a, .int .i64 l, .int .i64 r, .int .i64 f, .int .i64 t, .int .i64 g]] w fun e w' => ∃ v', e = .returned v' ∧ Ints w' w.heap.size w'.heap.size v' (evN [k, a, l, r, f, t, g]) ∧ Below w.heap.size w w' := by
  have HA := Lib.hid ha
  clear ha
  rcases kind_cases k with rfl | rfl | rfl | rfl | ⟨h0, h1, h2, h3⟩
  · skip
    have Hs := Lib.hid (show ∃ w1, w1 = ((w.alloc (.cells #[.int .i64 0, .int .i64 a, .int .i64 l, .int .i64 r, .int .i64 f, .int .i64 t, .int .i64 g] 40)).alloc (.cells #[.int .i64 l, .int .i64 r, .int .i64 f, .int .i64 t] 38)) ∧ Below w.heap.size w w1 ∧ w1.cell? ⟨w.heap.size, 0, none⟩ = some (.int .i64 0) ∧ w1.cell? ⟨w.heap.size, 1, none⟩ = some (.int .i64 a) ∧ w1.cell? ⟨w.heap.size, 2, none⟩ = some (.int .i64 l) ∧ w1.cell? ⟨w.heap.size, 3, none⟩ = some (.int .i64 r) ∧ w1.cell? ⟨w.heap.size, 4, none⟩ = some (.int .i64 f) ∧ w1.cell? ⟨w.heap.size, 5, none⟩ = some (.int .i64 t) ∧ w1.cell? ⟨w.heap.size, 6, none⟩ = some (.int .i64 g) ∧ w1.cell? ⟨w.heap.size + 1, 0, none⟩ = some (.int .i64 l) ∧ w1.cell? ⟨w.heap.size + 1, 1, none⟩ = some (.int .i64 r) ∧ w1.cell? ⟨w.heap.size + 1, 2, none⟩ = some (.int .i64 f) ∧ w1.cell? ⟨w.heap.size + 1, 3, none⟩ = some (.int .i64 t) ∧ w.heap.size + 1 < w1.heap.size from by
      have hb : Below w.heap.size w ((w.alloc (.cells #[.int .i64 0, .int .i64 a, .int .i64 l, .int .i64 r, .int .i64 f, .int .i64 t, .int .i64 g] 40)).alloc (.cells #[.int .i64 l, .int .i64 r, .int .i64 f, .int .i64 t] 38)) := ((Below.refl _ _).alloc (Nat.le_refl _) _).alloc (by simp) _
      exact ⟨_, rfl, hb, by go_simp, by go_simp, by go_simp, by go_simp, by go_simp, by go_simp, by go_simp, by go_simp, by go_simp, by go_simp, by go_simp, by simp⟩)
    go_enter Tryz.func148, Tryz.ntmps148
    go_wp2
    obtain ⟨w1, hw1, hb0, c00, c01, c02, c03, c04, c05, c06, c10, c11, c12, c13, hz⟩ := Hs.out
    have HZ := Lib.hid (show w1.heap.size = w.heap.size + 1 + 1 by rw [hw1]; simp)
    rw [← hw1]
    clear hw1 Hs
    have HZ2 := HZ
    have hI : ∀ x ∈ [a, r, t], I64 x := by
      intro x hx
      simp only [List.mem_cons, List.not_mem_nil, or_false] at hx
      rcases hx with rfl | rfl | rfl <;> first | exact HA.out.1 | exact HA.out.2.1 | exact HA.out.2.2.1 | exact HA.out.2.2.2.1 | exact HA.out.2.2.2.2.1 | exact HA.out.2.2.2.2.2
    have hL := (lit_own w1 3 [a, r, t] (by simp) hI).ints.wide (show w.heap.size ≤ w1.heap.size by omega) (Nat.le_refl _)
    have HL := Lib.hid hL
    have HB0 := Lib.hid (hb0.trans (((Below.refl w1.heap.size w1).alloc (Nat.le_refl _) (.cells ([a, r, t].map (Value.int .i64)).toArray 3)).mono (by omega)))
    have e2 := HZ2.out
    clear hL hI
    go_ret
    exact ⟨.slice (some ⟨w1.heap.size, 0, none⟩) 3 3, by rw [e2]; rfl, HL.out, HB0.out⟩
  · skip
    have Hs := Lib.hid (show ∃ w1, w1 = ((w.alloc (.cells #[.int .i64 1, .int .i64 a, .int .i64 l, .int .i64 r, .int .i64 f, .int .i64 t, .int .i64 g] 40)).alloc (.cells #[.int .i64 l, .int .i64 r, .int .i64 f, .int .i64 t] 38)) ∧ Below w.heap.size w w1 ∧ w1.cell? ⟨w.heap.size, 0, none⟩ = some (.int .i64 1) ∧ w1.cell? ⟨w.heap.size, 1, none⟩ = some (.int .i64 a) ∧ w1.cell? ⟨w.heap.size, 2, none⟩ = some (.int .i64 l) ∧ w1.cell? ⟨w.heap.size, 3, none⟩ = some (.int .i64 r) ∧ w1.cell? ⟨w.heap.size, 4, none⟩ = some (.int .i64 f) ∧ w1.cell? ⟨w.heap.size, 5, none⟩ = some (.int .i64 t) ∧ w1.cell? ⟨w.heap.size, 6, none⟩ = some (.int .i64 g) ∧ w1.cell? ⟨w.heap.size + 1, 0, none⟩ = some (.int .i64 l) ∧ w1.cell? ⟨w.heap.size + 1, 1, none⟩ = some (.int .i64 r) ∧ w1.cell? ⟨w.heap.size + 1, 2, none⟩ = some (.int .i64 f) ∧ w1.cell? ⟨w.heap.size + 1, 3, none⟩ = some (.int .i64 t) ∧ w.heap.size + 1 < w1.heap.size from by
      have hb : Below w.heap.size w ((w.alloc (.cells #[.int .i64 1, .int .i64 a, .int .i64 l, .int .i64 r, .int .i64 f, .int .i64 t, .int .i64 g] 40)).alloc (.cells #[.int .i64 l, .int .i64 r, .int .i64 f, .int .i64 t] 38)) := ((Below.refl _ _).alloc (Nat.le_refl _) _).alloc (by simp) _
      exact ⟨_, rfl, hb, by go_simp, by go_simp, by go_simp, by go_simp, by go_simp, by go_simp, by go_simp, by go_simp, by go_simp, by go_simp, by go_simp, by simp⟩)
    go_enter Tryz.func148, Tryz.ntmps148
    go_wp2
    obtain ⟨w1, hw1, hb0, c00, c01, c02, c03, c04, c05, c06, c10, c11, c12, c13, hz⟩ := Hs.out
    have HZ := Lib.hid (show w1.heap.size = w.heap.size + 1 + 1 by rw [hw1]; simp)
    rw [← hw1]
    clear hw1 Hs
    have HZ2 := HZ
    have hI : ∀ x ∈ [a, l, r, f, t, g], I64 x := by
      intro x hx
      simp only [List.mem_cons, List.not_mem_nil, or_false] at hx
      rcases hx with rfl | rfl | rfl | rfl | rfl | rfl <;> first | exact HA.out.1 | exact HA.out.2.1 | exact HA.out.2.2.1 | exact HA.out.2.2.2.1 | exact HA.out.2.2.2.2.1 | exact HA.out.2.2.2.2.2
    have hL := (lit_own w1 3 [a, l, r, f, t, g] (by simp) hI).ints.wide (show w.heap.size ≤ w1.heap.size by omega) (Nat.le_refl _)
    have HL := Lib.hid hL
    have HB0 := Lib.hid (hb0.trans (((Below.refl w1.heap.size w1).alloc (Nat.le_refl _) (.cells ([a, l, r, f, t, g].map (Value.int .i64)).toArray 3)).mono (by omega)))
    have e2 := HZ2.out
    clear hL hI
    go_ret
    exact ⟨.slice (some ⟨w1.heap.size, 0, none⟩) 6 6, by rw [e2]; rfl, HL.out, HB0.out⟩
  · skip
    have Hs := Lib.hid (show ∃ w1, w1 = ((w.alloc (.cells #[.int .i64 2, .int .i64 a, .int .i64 l, .int .i64 r, .int .i64 f, .int .i64 t, .int .i64 g] 40)).alloc (.cells #[.int .i64 l, .int .i64 r, .int .i64 f, .int .i64 t] 38)) ∧ Below w.heap.size w w1 ∧ w1.cell? ⟨w.heap.size, 0, none⟩ = some (.int .i64 2) ∧ w1.cell? ⟨w.heap.size, 1, none⟩ = some (.int .i64 a) ∧ w1.cell? ⟨w.heap.size, 2, none⟩ = some (.int .i64 l) ∧ w1.cell? ⟨w.heap.size, 3, none⟩ = some (.int .i64 r) ∧ w1.cell? ⟨w.heap.size, 4, none⟩ = some (.int .i64 f) ∧ w1.cell? ⟨w.heap.size, 5, none⟩ = some (.int .i64 t) ∧ w1.cell? ⟨w.heap.size, 6, none⟩ = some (.int .i64 g) ∧ w1.cell? ⟨w.heap.size + 1, 0, none⟩ = some (.int .i64 l) ∧ w1.cell? ⟨w.heap.size + 1, 1, none⟩ = some (.int .i64 r) ∧ w1.cell? ⟨w.heap.size + 1, 2, none⟩ = some (.int .i64 f) ∧ w1.cell? ⟨w.heap.size + 1, 3, none⟩ = some (.int .i64 t) ∧ w.heap.size + 1 < w1.heap.size from by
      have hb : Below w.heap.size w ((w.alloc (.cells #[.int .i64 2, .int .i64 a, .int .i64 l, .int .i64 r, .int .i64 f, .int .i64 t, .int .i64 g] 40)).alloc (.cells #[.int .i64 l, .int .i64 r, .int .i64 f, .int .i64 t] 38)) := ((Below.refl _ _).alloc (Nat.le_refl _) _).alloc (by simp) _
      exact ⟨_, rfl, hb, by go_simp, by go_simp, by go_simp, by go_simp, by go_simp, by go_simp, by go_simp, by go_simp, by go_simp, by go_simp, by go_simp, by simp⟩)
    go_enter Tryz.func148, Tryz.ntmps148
    go_wp2
    obtain ⟨w1, hw1, hb0, c00, c01, c02, c03, c04, c05, c06, c10, c11, c12, c13, hz⟩ := Hs.out
    have HZ := Lib.hid (show w1.heap.size = w.heap.size + 1 + 1 by rw [hw1]; simp)
    rw [← hw1]
    clear hw1 Hs
    have HZ2 := HZ
    have hI : ∀ x ∈ [a, l, r, f, t], I64 x := by
      intro x hx
      simp only [List.mem_cons, List.not_mem_nil, or_false] at hx
      rcases hx with rfl | rfl | rfl | rfl | rfl <;> first | exact HA.out.1 | exact HA.out.2.1 | exact HA.out.2.2.1 | exact HA.out.2.2.2.1 | exact HA.out.2.2.2.2.1 | exact HA.out.2.2.2.2.2
    have hL := (lit_own w1 3 [a, l, r, f, t] (by simp) hI).ints.wide (show w.heap.size ≤ w1.heap.size by omega) (Nat.le_refl _)
    have HL := Lib.hid hL
    have HB0 := Lib.hid (hb0.trans (((Below.refl w1.heap.size w1).alloc (Nat.le_refl _) (.cells ([a, l, r, f, t].map (Value.int .i64)).toArray 3)).mono (by omega)))
    have e2 := HZ2.out
    clear hL hI
    go_ret
    exact ⟨.slice (some ⟨w1.heap.size, 0, none⟩) 5 5, by rw [e2]; rfl, HL.out, HB0.out⟩
  · skip
    have Hs := Lib.hid (show ∃ w1, w1 = ((w.alloc (.cells #[.int .i64 3, .int .i64 a, .int .i64 l, .int .i64 r, .int .i64 f, .int .i64 t, .int .i64 g] 40)).alloc (.cells #[.int .i64 l, .int .i64 r, .int .i64 f, .int .i64 t] 38)) ∧ Below w.heap.size w w1 ∧ w1.cell? ⟨w.heap.size, 0, none⟩ = some (.int .i64 3) ∧ w1.cell? ⟨w.heap.size, 1, none⟩ = some (.int .i64 a) ∧ w1.cell? ⟨w.heap.size, 2, none⟩ = some (.int .i64 l) ∧ w1.cell? ⟨w.heap.size, 3, none⟩ = some (.int .i64 r) ∧ w1.cell? ⟨w.heap.size, 4, none⟩ = some (.int .i64 f) ∧ w1.cell? ⟨w.heap.size, 5, none⟩ = some (.int .i64 t) ∧ w1.cell? ⟨w.heap.size, 6, none⟩ = some (.int .i64 g) ∧ w1.cell? ⟨w.heap.size + 1, 0, none⟩ = some (.int .i64 l) ∧ w1.cell? ⟨w.heap.size + 1, 1, none⟩ = some (.int .i64 r) ∧ w1.cell? ⟨w.heap.size + 1, 2, none⟩ = some (.int .i64 f) ∧ w1.cell? ⟨w.heap.size + 1, 3, none⟩ = some (.int .i64 t) ∧ w.heap.size + 1 < w1.heap.size from by
      have hb : Below w.heap.size w ((w.alloc (.cells #[.int .i64 3, .int .i64 a, .int .i64 l, .int .i64 r, .int .i64 f, .int .i64 t, .int .i64 g] 40)).alloc (.cells #[.int .i64 l, .int .i64 r, .int .i64 f, .int .i64 t] 38)) := ((Below.refl _ _).alloc (Nat.le_refl _) _).alloc (by simp) _
      exact ⟨_, rfl, hb, by go_simp, by go_simp, by go_simp, by go_simp, by go_simp, by go_simp, by go_simp, by go_simp, by go_simp, by go_simp, by go_simp, by simp⟩)
    go_enter Tryz.func148, Tryz.ntmps148
    go_wp2
    obtain ⟨w1, hw1, hb0, c00, c01, c02, c03, c04, c05, c06, c10, c11, c12, c13, hz⟩ := Hs.out
    have HZ := Lib.hid (show w1.heap.size = w.heap.size + 1 + 1 by rw [hw1]; simp)
    rw [← hw1]
    clear hw1 Hs
    have HZ2 := HZ
    have hI : ∀ x ∈ [a, g], I64 x := by
      intro x hx
      simp only [List.mem_cons, List.not_mem_nil, or_false] at hx
      rcases hx with rfl | rfl <;> first | exact HA.out.1 | exact HA.out.2.1 | exact HA.out.2.2.1 | exact HA.out.2.2.2.1 | exact HA.out.2.2.2.2.1 | exact HA.out.2.2.2.2.2
    have hL := (lit_own w1 3 [a, g] (by simp) hI).ints.wide (show w.heap.size ≤ w1.heap.size by omega) (Nat.le_refl _)
    have HL := Lib.hid hL
    have HB0 := Lib.hid (hb0.trans (((Below.refl w1.heap.size w1).alloc (Nat.le_refl _) (.cells ([a, g].map (Value.int .i64)).toArray 3)).mono (by omega)))
    have e2 := HZ2.out
    clear hL hI
    go_ret
    exact ⟨.slice (some ⟨w1.heap.size, 0, none⟩) 2 2, by rw [e2]; rfl, HL.out, HB0.out⟩
  · have e : evN [k, a, l, r, f, t, g] = [] := by
      show (idxK k).map _ = []
      unfold idxK; rw [if_neg h0, if_neg h1, if_neg h2, if_neg h3]; rfl
    have e0 : (k == 0) = false := beq_f h0
    have e1 : (k == 1) = false := beq_f h1
    have e2 : (k == 2) = false := beq_f h2
    have e3 : (k == 3) = false := beq_f h3
    have HE := Lib.hid e
    clear e
    have Hs := Lib.hid (show ∃ w1, w1 = ((w.alloc (.cells #[.int .i64 k, .int .i64 a, .int .i64 l, .int .i64 r, .int .i64 f, .int .i64 t, .int .i64 g] 40)).alloc (.cells #[.int .i64 l, .int .i64 r, .int .i64 f, .int .i64 t] 38)) ∧ Below w.heap.size w w1 ∧ w1.cell? ⟨w.heap.size, 0, none⟩ = some (.int .i64 k) ∧ w1.cell? ⟨w.heap.size, 1, none⟩ = some (.int .i64 a) ∧ w1.cell? ⟨w.heap.size, 2, none⟩ = some (.int .i64 l) ∧ w1.cell? ⟨w.heap.size, 3, none⟩ = some (.int .i64 r) ∧ w1.cell? ⟨w.heap.size, 4, none⟩ = some (.int .i64 f) ∧ w1.cell? ⟨w.heap.size, 5, none⟩ = some (.int .i64 t) ∧ w1.cell? ⟨w.heap.size, 6, none⟩ = some (.int .i64 g) ∧ w1.cell? ⟨w.heap.size + 1, 0, none⟩ = some (.int .i64 l) ∧ w1.cell? ⟨w.heap.size + 1, 1, none⟩ = some (.int .i64 r) ∧ w1.cell? ⟨w.heap.size + 1, 2, none⟩ = some (.int .i64 f) ∧ w1.cell? ⟨w.heap.size + 1, 3, none⟩ = some (.int .i64 t) ∧ w.heap.size + 1 < w1.heap.size from by
      have hb : Below w.heap.size w ((w.alloc (.cells #[.int .i64 k, .int .i64 a, .int .i64 l, .int .i64 r, .int .i64 f, .int .i64 t, .int .i64 g] 40)).alloc (.cells #[.int .i64 l, .int .i64 r, .int .i64 f, .int .i64 t] 38)) := ((Below.refl _ _).alloc (Nat.le_refl _) _).alloc (by simp) _
      exact ⟨_, rfl, hb, by go_simp, by go_simp, by go_simp, by go_simp, by go_simp, by go_simp, by go_simp, by go_simp, by go_simp, by go_simp, by go_simp, by simp⟩)
    go_enter Tryz.func148, Tryz.ntmps148
    go_wp2
    obtain ⟨w1, hw1, hb0, c00, c01, c02, c03, c04, c05, c06, c10, c11, c12, c13, hz⟩ := Hs.out
    have HZ := Lib.hid (show w1.heap.size = w.heap.size + 1 + 1 by rw [hw1]; simp)
    rw [← hw1]
    clear hw1 Hs
    go_ret
    exact ⟨.slice none 0 0, rfl, by rw [HE.out]; exact (OwnI.nil w1 w.heap.size 3).ints.wide (Nat.le_refl _) (Nat.le_refl _), hb0⟩
end Go.Proofs.YtkgepklapglmdaaGreatDoor

namespace Go.Proofs.YtkgepklapglmdaaGreatDoor
open Go.RowKit
attribute [local go_sem ↓] Go.wp_at_zero Go.wp_at_succ

/-- the table of powers stays where it is -/
def Pow (B : Nat) (w : World) : Prop := Lib.TabBelow Tryz.prog B w "internal/strconv.uint64pow10" .u64 Lib.pow10Tab ∧ B ≤ w.heap.size
theorem Pow.below {B : Nat} {w w' : World} (h : Pow B w) (b : Below w.heap.size w w') : Pow B w' := ⟨fun x hx => h.1 x ((b.mono h.2).trans hx), Nat.le_trans h.2 b.size⟩
theorem Itoa_any (B : Nat) (n : Int) (w : World) (hp : Pow B w) (h0 : 0 ≤ n) (h1 : n ≤ 999999) :
    Calls Tryz.prog 81 #[.int .i64 n] w fun e w' => e = .returned (.string (TB (Lib.decDigits n.toNat))) ∧ Below w.heap.size w w' := by
  refine (Tryz.strconv_Itoa n (by omega) (by omega) w hp.1.here).mono ?_
  rintro e w' ⟨rfl, k, os, rfl⟩
  refine ⟨?_, Lib.below_grow _ _ (Nat.le_refl _) _ _⟩
  have e : Lib.itoa n = Lib.decDigits n.toNat := by unfold Lib.itoa; rw [if_neg (by omega)]
  rw [e]; rfl
/-- the numbers in the text, each behind a space -/
def numsT (xs : List Int) : List UInt8 := xs.flatMap fun x => 32 :: Lib.decDigits x.toNat
theorem numsT_snoc (xs : List Int) (x : Int) : numsT (xs ++ [x]) = numsT xs ++ (32 :: Lib.decDigits x.toNat) := by simp [numsT]
/-- the text of an event -/
def fmtE (ev : List Int) : List UInt8 := if allR 0 999999 (evN ev) = true then wrd (gi ev 0) ++ numsT (evN ev) else []
theorem evN_len (ev : List Int) : (evN ev).length = (idxK (gi ev 0)).length := by simp [evN]
theorem idx_lt {k : Int} {j : Nat} (h : j < (idxK k).length) : (idxK k).getD j 0 < 7 := by
  rcases kind_cases k with rfl | rfl | rfl | rfl | ⟨h0, h1, h2, h3⟩
  · exact (by decide : ∀ j, j < 3 → [1, 3, 5].getD j 0 < 7) j h
  · exact (by decide : ∀ j, j < 6 → [1, 2, 3, 4, 5, 6].getD j 0 < 7) j h
  · exact (by decide : ∀ j, j < 5 → [1, 2, 3, 4, 5].getD j 0 < 7) j h
  · exact (by decide : ∀ j, j < 2 → [1, 6].getD j 0 < 7) j h
  · unfold idxK at h; rw [if_neg h0, if_neg h1, if_neg h2, if_neg h3] at h; exact absurd h (by simp)
theorem wrd_len (k : Int) : (wrd k).length ≤ 6 := by
  rcases kind_cases k with rfl | rfl | rfl | rfl | ⟨h0, h1, h2, h3⟩
  · decide
  · decide
  · decide
  · decide
  · unfold wrd; rw [if_neg h0, if_neg h1, if_neg h2, if_neg h3]; simp
theorem eventWords_any (w : World) : Calls Tryz.prog 149 #[] w fun e w' => e = .returned (.slice (some ⟨w.heap.size, 0, none⟩) 4 4) ∧ Below w.heap.size w w' ∧ ∀ j, j < 4 → w'.cell? ⟨w.heap.size, j, none⟩ = some (.string (TB (wrd (j : Int)))) := by
  go_enter Tryz.func149, Tryz.ntmps149
  go_wp2
  go_ret
  refine ⟨rfl, (Below.refl _ _).alloc (Nat.le_refl _) _, fun j hj => ?_⟩
  obtain rfl | rfl | rfl | rfl : j = 0 ∨ j = 1 ∨ j = 2 ∨ j = 3 := by omega
  · go_simp; rfl
  · go_simp; rfl
  · go_simp; rfl
  · go_simp; rfl
end Go.Proofs.YtkgepklapglmdaaGreatDoor

namespace Go.Proofs.YtkgepklapglmdaaGreatDoor
open Go.RowKit

/-! pieces of a text -/
/-- the pieces between the bytes c; cur: what has been read of the piece -/
def splitC (c : UInt8) (cur : List UInt8) : List UInt8 → List (List UInt8)
  | [] => [cur]
  | b :: t => if b = c then cur :: splitC c [] t else splitC c (cur ++ [b]) t
theorem splitC_ix (c : UInt8) : ∀ (l cur : List UInt8), (Lib.index l [c] = -1 ∧ splitC c cur l = [cur ++ l]) ∨ ∃ i : Nat, Lib.index l [c] = i ∧ splitC c cur l = (cur ++ l.take i) :: splitC c [] (l.drop (i + 1))
  | [], cur => by left; exact ⟨by simp [Lib.index], by simp [splitC]⟩
  | b :: t, cur => by
    by_cases h : b = c
    · subst h
      right
      exact ⟨0, by simp [Lib.index, List.isPrefixOf], by simp [splitC]⟩
    · have hp : ([c] : List UInt8).isPrefixOf (b :: t) = false := by simp [List.isPrefixOf, Ne.symm h]
      have hix : Lib.index (b :: t) [c] = if Lib.index t [c] == -1 then -1 else Lib.index t [c] + 1 := by rw [Lib.index, hp]; simp
      have hs : splitC c cur (b :: t) = splitC c (cur ++ [b]) t := by rw [splitC, if_neg h]
      rcases splitC_ix c t (cur ++ [b]) with ⟨h1, h2⟩ | ⟨i, h1, h2⟩
      · left; exact ⟨by rw [hix, h1]; rfl, by rw [hs, h2]; simp⟩
      · right
        refine ⟨i + 1, ?_, by rw [hs, h2]; simp⟩
        have : ¬ ((i : Int) == -1) = true := fun e => by have := beq_iff_eq.1 e; omega
        rw [hix, h1, if_neg this]; omega
theorem splitC_split (c : UInt8) : ∀ (n : Nat) (l : List UInt8), l.length ≤ n → Lib.splitK [c] 0 (Lib.count l [c]) l = splitC c [] l := by
  intro n
  induction n with
  | zero =>
    intro l h
    obtain rfl := List.eq_nil_of_length_eq_zero (by omega : l.length = 0)
    rw [Lib.count_miss (by simp [Lib.index])]; rfl
  | succ n ih =>
    intro l h
    rcases splitC_ix c l [] with ⟨h1, h2⟩ | ⟨i, h1, h2⟩
    · rw [Lib.count_miss h1, h2]; rfl
    · have hlt : i < l.length := by
        by_cases hi : i < l.length
        · exact hi
        · have hc := Lib.count_hit (sub := [c]) (by simp) h1
          exfalso
          have key : ∀ (l : List UInt8), Lib.index l [c] < l.length ∨ l = [] := by
            intro l
            induction l with
            | nil => exact .inr rfl
            | cons b t ih2 =>
              left
              rw [Lib.index]
              split
              · simp only [List.length_cons]; omega
              · split
                · simp only [List.length_cons]; omega
                · rcases ih2 with h | h
                  · simp only [List.length_cons]; omega
                  · subst h
                    rename_i h9
                    exact absurd (by simp [Lib.index]) h9
          rcases key l with h | h
          · omega
          · subst h; simp [Lib.index] at h1
      rw [Lib.count_hit (sub := [c]) (by simp) h1, Nat.add_comm, Lib.splitK, h1]
      have : ¬ ((i : Int) == -1) = true := fun e => by have := beq_iff_eq.1 e; omega
      rw [if_neg this, h2]
      have e1 : (i : Int).toNat = i := by omega
      simp only [e1, Nat.add_zero, List.nil_append, List.length_singleton]
      rw [ih (l.drop (i + 1)) (by rw [List.length_drop]; omega)]
theorem splitB_C (c : UInt8) (l : List UInt8) : (Lib.splitB (TB [c]) 0 (Lib.countB (TB l) (TB [c])) (TB l)).map Value.string = (splitC c [] l).map fun x => Value.string (TB x) := by
  have h := Lib.splitB_data (TB [c]) 0 (Lib.countB (TB l) (TB [c])) (TB l)
  have e : Lib.countB (TB l) (TB [c]) = Lib.count l [c] := rfl
  have h2 : (Lib.splitB (TB [c]) 0 (Lib.countB (TB l) (TB [c])) (TB l)).map (·.data.toList) = splitC c [] l := by
    rw [h, e]; exact splitC_split c l.length l (Nat.le_refl _)
  rw [← h2, List.map_map]
  rfl
theorem splitC_len (c : UInt8) : ∀ (l cur : List UInt8), (splitC c cur l).length = l.count c + 1
  | [], cur => rfl
  | b :: t, cur => by
    rw [splitC]
    split
    · rename_i h; subst h; rw [List.length_cons, splitC_len, List.count_cons_self]
    · rename_i h; rw [splitC_len, List.count_cons_of_ne (by simpa using h)]
theorem countB_C (c : UInt8) (l : List UInt8) : Lib.countB (TB l) (TB [c]) + 1 = (splitC c [] l).length := by
  rw [splitC_len]
  have e : Lib.countB (TB l) (TB [c]) = Lib.count l [c] := rfl
  rw [e, Lib.count_one]
theorem splitC_mem (c : UInt8) : ∀ (l cur x : List UInt8), x ∈ splitC c cur l → x.length ≤ cur.length + l.length
  | [], cur, x, h => by rw [splitC, List.mem_singleton] at h; subst h; omega
  | b :: t, cur, x, h => by
    rw [splitC] at h
    split at h
    · rcases List.mem_cons.1 h with rfl | h
      · omega
      · have := splitC_mem c t [] x h
        simp only [List.length_nil, List.length_cons] at this ⊢; omega
    · have := splitC_mem c t _ x h
      simp only [List.length_append, List.length_cons, List.length_nil] at this ⊢; omega

/-! numbers of a text -/
def dgt (b : UInt8) : Bool := decide (48 ≤ b.toNat) && decide (b.toNat ≤ 57)
theorem dgt_iff {b : UInt8} : dgt b = true ↔ 48 ≤ b.toNat ∧ b.toNat ≤ 57 := by unfold dgt; rw [Bool.and_eq_true, decide_eq_true_eq, decide_eq_true_eq]
def valD (n : Int) : List UInt8 → Int
  | [] => n
  | b :: t => valD (10 * n + ((b.toNat : Int) - 48)) t
theorem valD_snoc (b : UInt8) : ∀ (s : List UInt8) (n : Int), valD n (s ++ [b]) = 10 * valD n s + ((b.toNat : Int) - 48)
  | [], n => rfl
  | x :: t, n => by
    show valD (10 * n + _) (t ++ [b]) = 10 * valD (10 * n + _) t + _
    rw [valD_snoc b t]
/-- a number of at most six digits without leading zeros; -1 else -/
def nmL (s : List UInt8) : Int := if 1 ≤ s.length ∧ s.length ≤ 6 ∧ ¬ (1 < s.length ∧ s.headD 0 = 48) ∧ s.all dgt = true then valD 0 s else -1
/-- the reference's reading -/
def rdN : Int → List UInt8 → Int
  | n, [] => n
  | n, b :: t => if dgt b = false ∨ 99999 < n then -1 else rdN (10 * n + ((b.toNat : Int) - 48)) t
theorem valD_nn : ∀ (s : List UInt8) (n : Int), s.all dgt = true → 0 ≤ n → 0 ≤ valD n s
  | [], n, _, h => h
  | b :: t, n, h, h0 => by
    rw [List.all_cons, Bool.and_eq_true] at h
    have := dgt_iff.1 h.1
    exact valD_nn t _ h.2 (by omega)
theorem rdN_small : ∀ (s : List UInt8) (n : Int) (k : Nat), s.all dgt = true → 0 ≤ n → n < 10 ^ k → k + s.length ≤ 6 → rdN n s = valD n s
  | [], _, _, _, _, _, _ => rfl
  | b :: t, n, k, h, h0, h1, h2 => by
    rw [List.all_cons, Bool.and_eq_true] at h
    have h3 := dgt_iff.1 h.1
    rw [List.length_cons] at h2
    have h4 : (10 : Int) ^ k ≤ 10 ^ 5 := by
      have : (10 : Nat) ^ k ≤ 10 ^ 5 := Nat.pow_le_pow_right (by omega) (by omega)
      exact_mod_cast this
    rw [rdN, if_neg (by rw [h.1]; simp; omega), valD]
    exact rdN_small t _ (k + 1) h.2 (by omega) (by rw [Int.pow_succ]; omega) (by omega)
theorem rdN_big : ∀ (s : List UInt8) (n : Int), 0 ≤ n → n ≤ 999999 → 0 ≤ rdN n s → s.all dgt = true ∧ rdN n s = valD n s ∧ rdN n s ≤ 999999
  | [], n, h0, h1, _ => ⟨rfl, rfl, h1⟩
  | b :: t, n, h0, h1, h => by
    rw [rdN] at h ⊢
    by_cases hc : dgt b = false ∨ 99999 < n
    · rw [if_pos hc] at h; omega
    · rw [if_neg hc] at h ⊢
      have hb : dgt b = true := by
        cases e : dgt b
        · exact absurd (.inl e) hc
        · rfl
      have h3 := dgt_iff.1 hb
      have h4 : ¬ 99999 < n := fun e => hc (.inr e)
      obtain ⟨a1, a2, a3⟩ := rdN_big t _ (by omega) (by omega) h
      exact ⟨by rw [List.all_cons, hb, a1]; rfl, a2, a3⟩
theorem rdN_rng (s : List UInt8) : -1 ≤ rdN 0 s ∧ rdN 0 s ≤ 999999 := by
  have h1 : ∀ (s : List UInt8) (n : Int), 0 ≤ n → -1 ≤ rdN n s := by
    intro s
    induction s with
    | nil => intro n h; show -1 ≤ n; omega
    | cons b t ih =>
      intro n h
      rw [rdN]
      split
      · omega
      · rename_i hc
        have hb : dgt b = true := by
          cases e : dgt b
          · exact absurd (.inl e) hc
          · rfl
        have h3 := dgt_iff.1 hb
        exact ih _ (by omega)
  refine ⟨h1 s 0 (by omega), ?_⟩
  rcases Int.lt_or_le (rdN 0 s) 0 with h | h
  · omega
  · exact (rdN_big s 0 (by omega) (by omega) h).2.2
theorem u8_ofNat {n : Nat} (h : n < 10) : (UInt8.ofNat (48 + n)).toNat = 48 + n := by
  rw [UInt8.toNat_ofNat']; omega
theorem dec_of : ∀ (m : Nat) (s : List UInt8), s.length ≤ m → 1 ≤ s.length → ¬ (1 < s.length ∧ s.headD 0 = 48) → s.all dgt = true → Lib.decDigits (valD 0 s).toNat = s := by
  intro m
  induction m with
  | zero => intro s h1 h2; omega
  | succ m ih =>
    intro s h1 h2 h3 h4
    rcases List.eq_nil_or_concat s with rfl | ⟨t, b, rfl⟩
    · simp at h2
    rw [List.concat_eq_append] at h1 h2 h3 h4 ⊢
    rw [List.all_append, Bool.and_eq_true] at h4
    have hb : dgt b = true := by simpa using h4.2
    have hd := dgt_iff.1 hb
    rw [valD_snoc]
    have ub : UInt8.ofNat (48 + (b.toNat - 48)) = b := by
      rw [show 48 + (b.toNat - 48) = b.toNat by omega]; simp
    cases ht : t with
    | nil =>
      have e : (10 * valD 0 [] + ((b.toNat : Int) - 48)).toNat = b.toNat - 48 := by show (10 * 0 + _ : Int).toNat = _; omega
      rw [e, Lib.decDigits_one (by omega), ub]; rfl
    | cons x r =>
      subst ht
      have hx : ¬ (x = 48) := fun e => h3 ⟨by simp, by simp [e]⟩
      have hv := ih (x :: r) (by simp at h1 ⊢; omega) (by simp) (fun e => hx (by simpa using e.2)) h4.1
      have hnn := valD_nn (x :: r) 0 h4.1 (by omega)
      obtain ⟨V, hV⟩ := Int.eq_ofNat_of_zero_le hnn
      have hpos : 1 ≤ V := by
        rcases Nat.eq_zero_or_pos V with h0 | h0
        · rw [hV, h0] at hv
          have : Lib.decDigits (((0 : Nat) : Int).toNat) = [48] := by rw [show ((0 : Nat) : Int).toNat = 0 by rfl, Lib.decDigits_one (by omega)]; rfl
          rw [this] at hv
          injection hv with a _
          exact absurd a.symm hx
        · exact h0
      have e : (10 * valD 0 (x :: r) + ((b.toNat : Int) - 48)).toNat = 10 * V + (b.toNat - 48) := by rw [hV]; omega
      rw [e, Lib.decDigits, dif_neg (by omega), show (10 * V + (b.toNat - 48)) / 10 = V by omega, show (10 * V + (b.toNat - 48)) % 10 = b.toNat - 48 by omega, ub]
      have : Lib.decDigits V = x :: r := by rw [hV] at hv; simpa using hv
      rw [this]
theorem dec_ok : ∀ (n : Nat), (Lib.decDigits n).all dgt = true ∧ 1 ≤ (Lib.decDigits n).length ∧ ¬ (1 < (Lib.decDigits n).length ∧ (Lib.decDigits n).headD 0 = 48) ∧ (valD 0 (Lib.decDigits n) = n) ∧ (1 ≤ n → (Lib.decDigits n).headD 0 ≠ 48) := by
  intro n
  induction n using Nat.strongRecOn with
  | ind n ih =>
    by_cases h : n < 10
    · rw [Lib.decDigits_one h]
      have := u8_ofNat h
      refine ⟨?_, by simp, by simp, ?_, fun h1 e => ?_⟩
      · simp only [List.all_cons, List.all_nil, Bool.and_true]; exact dgt_iff.2 (by omega)
      · show 10 * 0 + (((UInt8.ofNat (48 + n)).toNat : Int) - 48) = n
        omega
      · have e2 : UInt8.ofNat (48 + n) = 48 := e
        rw [e2] at this
        have e3 : (48 : UInt8).toNat = 48 := rfl
        omega
    · obtain ⟨a1, a2, a3, a4, a5⟩ := ih (n / 10) (by omega)
      have hu := u8_ofNat (n := n % 10) (by omega)
      rw [Lib.decDigits, dif_neg h]
      have hh : (Lib.decDigits (n / 10) ++ [UInt8.ofNat (48 + n % 10)]).headD 0 = (Lib.decDigits (n / 10)).headD 0 := by
        cases hc : Lib.decDigits (n / 10) with
        | nil => rw [hc] at a2; simp at a2
        | cons x r => rfl
      refine ⟨?_, by simp, fun e => a5 (by omega) (by rw [← hh]; exact e.2), ?_, fun _ => by rw [hh]; exact a5 (by omega)⟩
      · rw [List.all_append, a1]
        simp only [List.all_cons, List.all_nil, Bool.and_true, Bool.true_and]; exact dgt_iff.2 (by omega)
      · rw [valD_snoc, a4, hu]; omega
/-- both readings are the same -/
theorem rd_nm (s : List UInt8) : nmL s = if rdN 0 s < 0 ∨ s = [] ∨ s ≠ Lib.decDigits (rdN 0 s).toNat then -1 else rdN 0 s := by
  by_cases hc : 1 ≤ s.length ∧ s.length ≤ 6 ∧ ¬ (1 < s.length ∧ s.headD 0 = 48) ∧ s.all dgt = true
  · obtain ⟨h1, h2, h3, h4⟩ := hc
    have e1 := rdN_small s 0 0 h4 (by omega) (by simp) (by omega)
    have e2 := dec_of s.length s (Nat.le_refl _) h1 h3 h4
    have e3 := valD_nn s 0 h4 (by omega)
    unfold nmL
    rw [if_pos ⟨h1, h2, h3, h4⟩, e1, if_neg]
    rintro (h | h | h)
    · omega
    · subst h; simp at h1
    · exact h e2.symm
  · unfold nmL
    rw [if_neg hc]
    by_cases h : rdN 0 s < 0 ∨ s = [] ∨ s ≠ Lib.decDigits (rdN 0 s).toNat
    · rw [if_pos h]
    · exfalso
      have h1 : ¬ rdN 0 s < 0 := fun e => h (.inl e)
      have h3 : s = Lib.decDigits (rdN 0 s).toNat := Classical.byContradiction fun e => h (.inr (.inr e))
      have h4 := rdN_rng s
      obtain ⟨a1, a2, a3, a4, a5⟩ := dec_ok (rdN 0 s).toNat
      have h6 := (dec_len (n := (rdN 0 s).toNat) (by omega)).2
      rw [← h3] at a1 a2 a3 h6
      exact hc ⟨a2, h6, a3, a1⟩
theorem nmL_rng (s : List UInt8) : -1 ≤ nmL s ∧ nmL s ≤ 999999 := by
  rw [rd_nm]
  have := rdN_rng s
  split <;> omega

/-! events of a text -/
/-- an event with k numbers of a text -/
def evS (k : Int) (ns : List Int) : Nat → List Int
  | 0 => [k, 0, 0, 0, 0, 0, 0]
  | j + 1 => (evS k ns j).set ((idxK k).getD j 0) (gi ns j)
theorem evS_len (k : Int) (ns : List Int) : ∀ j, (evS k ns j).length = 7
  | 0 => rfl
  | j + 1 => by rw [evS, List.length_set]; exact evS_len k ns j
/-- the kind of a text of a word and so many numbers -/
def kndT (w0 : List UInt8) (n : Nat) : Option Int := if w0 = wrd 0 ∧ n = 3 then some 0 else if w0 = wrd 1 ∧ n = 6 then some 1 else if w0 = wrd 2 ∧ n = 5 then some 2 else if w0 = wrd 3 ∧ n = 2 then some 3 else none
def badN (xs : List (List UInt8)) : Bool := xs.any fun x => decide (nmL x < 0)
/-- the numbers of the event of a text -/
def parE (l : List UInt8) : Option (List Int) :=
  match splitC 32 [] l with
  | [] => none
  | w0 :: xs => if badN xs = true then none else match kndT w0 xs.length with
    | none => none
    | some k => some (evS k (xs.map nmL) (xs.map nmL).length)
theorem splitC_ne (c : UInt8) (l cur : List UInt8) : splitC c cur l ≠ [] := fun e => by
  have := splitC_len c l cur
  rw [e] at this; simp at this
end Go.Proofs.YtkgepklapglmdaaGreatDoor

namespace Go.Proofs.YtkgepklapglmdaaGreatDoor
open Go.RowKit
attribute [local go_sem ↓] Go.wp_at_zero Go.wp_at_succ

/-! lists of texts in memory -/
def gs (xs : List (List UInt8)) (k : Nat) : List UInt8 := xs.getD k []
def sV (xs : List (List UInt8)) : List Value := xs.map fun x => Value.string (TB x)
def Strs (w : World) (lo hi : Nat) (v : Value) (xs : List (List UInt8)) : Prop :=
  ∃ A c, v = .slice A xs.length c ∧ xs.length ≤ c ∧ c ≤ maxLen ∧ Rd w lo hi 1 A xs.length (sV xs)
def OwnS (w : World) (base e : Nat) (v : Value) (xs : List (List UInt8)) : Prop := w.ownsRow base e 1 v xs.length (sV xs)
theorem gs_eq {xs : List (List UInt8)} {k : Nat} (h : k < xs.length) : gs xs k = xs[k] := by simp [gs, h]
theorem Strs.kept {w w' : World} {lo hi : Nat} {v : Value} {xs : List (List UInt8)} (h : Strs w lo hi v xs) (hk : Kept lo hi w w') : Strs w' lo hi v xs := by
  obtain ⟨A, c, h1, h2, h3, h4⟩ := h
  exact ⟨A, c, h1, h2, h3, h4.kept hk⟩
theorem Strs.below {w w' : World} {B lo hi : Nat} {v : Value} {xs : List (List UInt8)} (h : Strs w lo hi v xs) (hb : Below B w w') (hh : hi ≤ B) : Strs w' lo hi v xs := h.kept (.of_below hb hh)
theorem Strs.form {w : World} {lo hi : Nat} {v : Value} {xs : List (List UInt8)} (h : Strs w lo hi v xs) : ∃ A c, v = .slice A xs.length c ∧ xs.length ≤ c ∧ c ≤ 2 ^ 63 - 1 := by
  obtain ⟨A, c, h1, h2, h3, _⟩ := h
  exact ⟨A, c, h1, h2, by unfold maxLen at h3; omega⟩
theorem Strs.cell {w : World} {lo hi n c : Nat} {A : Option Addr} {xs : List (List UInt8)} (h : Strs w lo hi (.slice A n c) xs) {k : Nat} (hk : k < xs.length) :
    ∃ b o, A = some ⟨b, o, none⟩ ∧ lo ≤ b ∧ b < hi ∧ w.cell? ⟨b, o + k, none⟩ = some (.string (TB (gs xs k))) := by
  obtain ⟨A', c', e, _, _, hr⟩ := h
  obtain ⟨rfl, _, _⟩ : A = A' ∧ n = xs.length ∧ c = c' := by simpa using e
  obtain ⟨b, o, e1, h1, h2, h3⟩ := hr.2 (by omega)
  refine ⟨b, o, e1, h1, h2, h3 k _ ?_⟩
  simp [gs, sV, hk]
theorem Strs.cell' {w : World} {lo hi n c b o : Nat} {xs : List (List UInt8)} (h : Strs w lo hi (.slice (some ⟨b, o, none⟩) n c) xs) {k : Nat} (hk : k < xs.length) :
    w.cell? ⟨b, o + k, none⟩ = some (.string (TB (gs xs k))) := by
  obtain ⟨b', o', e, _, _, hc⟩ := h.cell hk
  simp only [Option.some.injEq, Addr.mk.injEq, and_true] at e
  obtain ⟨rfl, rfl⟩ := e
  exact hc
theorem OwnS.strs {w : World} {base e : Nat} {v : Value} {xs : List (List UInt8)} (h : OwnS w base e v xs) : Strs w base w.heap.size v xs := by
  obtain ⟨hl, hv⟩ := h
  rcases hv with ⟨rfl, hn⟩ | ⟨g, cap, cur, rfl, hb, hg, hc, hm, hs, ht⟩
  · have : xs = [] := List.eq_nil_of_length_eq_zero hn
    subst this
    exact ⟨none, 0, rfl, by simp, by simp [maxLen], ⟨by simp [sV], fun h => absurd h (by simp)⟩⟩
  · refine ⟨some ⟨g, 0, none⟩, cap, rfl, hc, hm, ⟨by simp [sV], fun _ => ⟨g, 0, rfl, hb, (Array.getElem?_eq_some_iff.1 hg).1, fun j u hu => ?_⟩⟩⟩
    rw [Nat.zero_add, cell_of_row w g j cur e (0, 0) hg, ← Array.getElem?_toList]
    rw [← ht, List.getElem?_take] at hu
    split at hu
    · exact hu
    · cases hu
theorem OwnS.empty (w : World) (base e : Nat) (hb : base ≤ w.heap.size) : OwnS (w.alloc (.cells #[] e)) base e (.slice (some ⟨w.heap.size, 0, none⟩) 0 0) [] :=
  World.ownsRow_made w #[] 0 hb (by simp [maxLen]) (by simp)
theorem OwnS.lt {w : World} {base e : Nat} {v : Value} {xs : List (List UInt8)} (h : OwnS w base e v xs) : ∀ g, v.ownBlock = some g → base ≤ g ∧ g < w.heap.size := World.ownsRow.lt h
theorem OwnS.form {w : World} {base e : Nat} {v : Value} {xs : List (List UInt8)} (h : OwnS w base e v xs) : ∃ A c, v = .slice A xs.length c ∧ xs.length ≤ c ∧ c ≤ 2 ^ 63 - 1 := h.strs.form
theorem OwnS.keptBlock {w w' : World} {base e : Nat} {v : Value} {xs : List (List UInt8)} (h : OwnS w base e v xs) (hk : ∀ g, v.ownBlock = some g → w'.heap[g]? = w.heap[g]?) : OwnS w' base e v xs := ownsRow_keptBlock h hk
theorem OwnS.kept {w w' : World} {base e : Nat} {v : Value} {xs : List (List UInt8)} (h : OwnS w base e v xs) (hk : Kept base w.heap.size w w') : OwnS w' base e v xs :=
  h.keptBlock fun g hg => hk g (h.lt g hg).1 (h.lt g hg).2
theorem OwnS.base {w : World} {base base' e : Nat} {v : Value} {xs : List (List UInt8)} (h : OwnS w base e v xs) (hb : base' ≤ base) : OwnS w base' e v xs := ownsRow_base h hb
theorem sV_append (a b : List (List UInt8)) : sV (a ++ b) = sV a ++ sV b := by simp [sV]
/-- 'append(v, x)' of texts -/
theorem wpList_appendS {P : Program} {t e : TypeId} {z : Value} {bytes : Nat} (S : SlT P t e z 1 bytes) {ops : Array Oper} {rest : List Oper} {o : Oper} {a : Act} {Q : Exit → Act → World → Prop} (w : World) (hgd : o.guard = none) (s x : Operand)
    (ho : o.op = .call { callee := .builtin .append, args := #[s, x], argTypes := #[t, t] }) (y : List UInt8) (u : Value) (hu : u = .string (TB y))
    (base : Nat) (v : Value) (xs : List (List UInt8)) (hs : a.eval s = v) (hx : a.eval x = .slice (some ⟨w.heap.size, 0, none⟩) 1 1) (hown : OwnS w base e v xs)
    (hn : (xs.length + 1) * bytes ≤ 140737488355328) (hn2 : xs.length ≤ 1099511627776) (hb : base ≤ w.heap.size)
    (h : ∀ v' w', OwnS w' base e v' (xs ++ [y]) → Grew base v v' w w' → wpList P ops Q rest (a.put o.dst v') w') :
    wpList P ops Q (o :: rest) a (w.alloc (.cells #[u] e)) := by
  subst hu
  refine wpList_append1 S w hgd s x ho _ base v xs.length (sV xs) hs hx hown rfl (by simp [Value.oneCell']) hn (by omega) hb fun v' w' k1 k2 k3 k4 => h v' w' ?_ ⟨k3, by omega, ?_⟩
  · unfold OwnS
    rw [List.length_append, sV_append]
    exact k1
  · intro g hg hne
    rw [k2.block g (by simp; omega) hne]
    exact Below.heap_alloc w _ g hg
/-- memory that only grows keeps the world's shape -/
theorem shaped_below {P : Program} {w w' : World} (h : w.ShapedOpen P) (b : Below w.heap.size w w') : w'.ShapedOpen P := by
  have lt_of_some : ∀ {i : Nat} {o : Obj}, w.heap[i]? = some o → i < w.heap.size := fun {i o} ho => (Array.getElem?_eq_some_iff.1 ho).1
  have hshape : ∀ r x, w.shape? r = some x → w'.shape? r = some x := fun r x hx => by
    unfold World.shape? at hx ⊢
    cases hr : w.heap[r]? with
    | none => rw [hr] at hx; cases hx
    | some o => rw [b.block r (lt_of_some hr)]; exact hx
  refine ⟨fun g zero t hg hz => ?_, fun k hk1 hk2 => ?_⟩
  · obtain ⟨cs, h1, h2, h3⟩ := h.1 g zero t hg hz
    exact ⟨cs, (b.block g (lt_of_some h1)).trans h1, h2, fun hb => Row.ok_of_shape (fun r x hx => hshape r x hx) (h3 hb)⟩
  · obtain ⟨o, o₀, h1, h2, h3⟩ := h.2 k hk1 hk2
    exact ⟨o, o₀, (b.block k (lt_of_some h1)).trans h1, h2, h3⟩
/-- what strings.Split laid -/
theorem strs_made (w : World) (e : Nat) (xs : List (List UInt8)) (cs : Array Value) (hcs : cs.toList = sV xs) (hl : xs.length ≤ maxLen) (n : Nat) (hn : n = xs.length) : Strs (w.alloc (.cells cs e)) w.heap.size (w.heap.size + 1) (.slice (some ⟨w.heap.size, 0, none⟩) n n) xs := by
  subst hn
  refine ⟨_, _, rfl, Nat.le_refl _, hl, by simp [sV], fun _ => ⟨w.heap.size, 0, rfl, Nat.le_refl _, by omega, fun j u hu => ?_⟩⟩
  rw [Nat.zero_add, cell_of_row _ w.heap.size j cs e (0, 0) (heap_alloc_new w _), ← Array.getElem?_toList, hcs]
  exact hu
/-- strings.Split at a byte -/
theorem Split_any (c : UInt8) (l : List UInt8) (sep : ByteArray) (hsep : sep = TB [c]) (s : ByteArray) (hs : s = TB l) (w : World) (h : w.ShapedOpen Tryz.prog) (hl : l.length < 4294967281) :
    Calls Tryz.prog 77 #[.string s, .string sep] w fun e w' => ∃ v, e = .returned v ∧ Strs w' w.heap.size w'.heap.size v (splitC c [] l) ∧ Below w.heap.size w w' := by
  subst hsep hs
  refine (Tryz.strings_Split_shaped (TB l) (TB [c]) w h (by rw [TB_size]; exact hl) (by rw [TB_size]; exact Nat.le_refl _)).mono ?_
  rintro e w' ⟨rfl, rfl⟩
  have hlen := splitC_len c l []
  have hcl : l.count c ≤ l.length := List.count_le_length
  refine ⟨_, rfl, ?_, (Below.refl _ _).alloc (Nat.le_refl _) _⟩
  have hz : (w.alloc (.cells ((Lib.splitB (TB [c]) 0 (Lib.countB (TB l) (TB [c])) (TB l)).map Value.string).toArray 9)).heap.size = w.heap.size + 1 := by simp
  have := strs_made w 9 (splitC c [] l) ((Lib.splitB (TB [c]) 0 (Lib.countB (TB l) (TB [c])) (TB l)).map Value.string).toArray (by rw [List.toList_toArray]; exact splitB_C c l) (by unfold maxLen; omega) (Lib.countB (TB l) (TB [c]) + 1) (countB_C c l)
  rw [← hz] at this
  exact this
end Go.Proofs.YtkgepklapglmdaaGreatDoor

namespace Go.Proofs.YtkgepklapglmdaaGreatDoor
open Go.RowKit
attribute [local go_sem ↓] Go.wp_at_zero Go.wp_at_succ

/-! bytes of texts -/
def gb (l : List UInt8) (j : Nat) : Int := ((l.getD j 0).toNat : Int)
theorem gb_rng (l : List UInt8) (j : Nat) : 0 ≤ gb l j ∧ gb l j ≤ 255 := by
  unfold gb
  have := (l.getD j 0).toNat_lt
  omega
theorem gb_eq {l : List UInt8} {j : Nat} (h : j < l.length) : gb l j = (l[j].toNat : Int) := by unfold gb; rw [List.getD_eq_getElem?_getD, List.getElem?_eq_getElem h]; rfl
theorem idx_run (l : List UInt8) (s : ByteArray) (hs : s = TB l) (j : Nat) (hj : j < l.length) (w : World) : (Instr.index 9 (.string s) (.int .i64 (j : Int))).run Tryz.prog w = .ok (.int .u8 (gb l j)) w := by
  subst hs
  rw [run_index_string w 9 (TB l) .i64 j Tryz.underlying9, dif_pos ⟨by omega, by rw [TB_size]; omega⟩, gb_eq hj]
  congr 2
theorem TB_ext (l : List UInt8) (a b : Nat) : (TB l).extract a b = TB ((l.drop a).take (b - a)) := by
  unfold TB
  rw [ByteArray.extract_mk]
theorem valD_lt : ∀ (s : List UInt8) (n : Int) (k : Nat), s.all dgt = true → 0 ≤ n → n < 10 ^ k → valD n s < 10 ^ (k + s.length)
  | [], n, k, _, _, h => h
  | b :: t, n, k, h, h0, h1 => by
    rw [List.all_cons, Bool.and_eq_true] at h
    have hb := dgt_iff.1 h.1
    have := valD_lt t (10 * n + ((b.toNat : Int) - 48)) (k + 1) h.2 (by omega) (by rw [Int.pow_succ]; omega)
    rw [List.length_cons, show k + (t.length + 1) = k + 1 + t.length by omega]
    exact this
theorem take_b {l : List UInt8} {j : Nat} (h : j < l.length) : l.take (j + 1) = l.take j ++ [l[j]] := List.take_succ_eq_append_getElem h
theorem dgt_gb {l : List UInt8} {j : Nat} (h : j < l.length) : dgt l[j] = true ↔ 48 ≤ gb l j ∧ gb l j ≤ 57 := by rw [dgt_iff, gb_eq h]; omega
theorem nmL_no {l : List UInt8} (h : ¬ (1 ≤ l.length ∧ l.length ≤ 6 ∧ ¬ (1 < l.length ∧ l.headD 0 = 48) ∧ l.all dgt = true)) : nmL l = -1 := by unfold nmL; rw [if_neg h]
theorem nmL_yes {l : List UInt8} (h : 1 ≤ l.length ∧ l.length ≤ 6 ∧ ¬ (1 < l.length ∧ l.headD 0 = 48) ∧ l.all dgt = true) : nmL l = valD 0 l := by unfold nmL; rw [if_pos h]
theorem head_gb {l : List UInt8} (h : 0 < l.length) : l.headD 0 = 48 ↔ gb l 0 = 48 := by
  cases l with
  | nil => exact absurd h (by simp)
  | cons b t =>
    show b = 48 ↔ ((b.toNat : Int)) = 48
    constructor
    · rintro rfl; rfl
    · intro e; exact UInt8.toNat_inj.1 (by show b.toNat = 48; omega)
def NmPost (l : List UInt8) (w : World) (e : Ending) (w' : World) : Prop := w = w' ∧ ((nmL l < 0 ∧ e = .returned (.tuple #[.int .i64 0, .bool false])) ∨ (0 ≤ nmL l ∧ e = .returned (.tuple #[.int .i64 (nmL l), .bool true])))
set_option maxRecDepth 100000 in
set_option maxHeartbeats 2000000 in
theorem parseNumber_any (l : List UInt8) (s : ByteArray) (hs : s = TB l) (w : World) (hl : l.length ≤ 4294967296) :
    Calls Tryz.prog 80 #[.string s] w fun e w' => NmPost l w e w' := by
  have hsz : s.size = l.length := by rw [hs, TB_size]
  have HS := Lib.hid hs
  have HZ := Lib.hid hsz
  obtain ⟨n, hn⟩ : ∃ n, n = s.size := ⟨_, rfl⟩
  have hsn : s.size = n := hn.symm
  have hnl : n ≤ l.length := by omega
  have hnl2 : l.length ≤ n := by omega
  clear hs hsz hn
  by_cases h1 : n < 1
  · have y1 : (n : Int) < 1 := by omega
    have HN := Lib.hid (show nmL l < 0 by rw [nmL_no (fun h => by omega)]; omega)
    go_enter Tryz.func80, Tryz.ntmps80
    go_wp2
    go_ret2
    exact ⟨rfl, .inl ⟨HN.out, rfl⟩⟩
  have y1 : ¬ (n : Int) < 1 := by omega
  by_cases h6 : 6 < n
  · have y2 : (6 : Int) < (n : Int) := by omega
    have HN := Lib.hid (show nmL l < 0 by rw [nmL_no (fun h => by omega)]; omega)
    go_enter Tryz.func80, Tryz.ntmps80
    go_wp2
    go_ret2
    exact ⟨rfl, .inl ⟨HN.out, rfl⟩⟩
  have y2 : ¬ (6 : Int) < (n : Int) := by omega
  have hix0 : ∀ w : World, (Instr.index 9 (.string s) (.int .i64 0)).run Tryz.prog w = .ok (.int .u8 (gb l 0)) w := fun w => idx_run l s HS.out 0 (by omega) w
  obtain ⟨b0, hb0⟩ : ∃ b, b = gb l 0 := ⟨_, rfl⟩
  have HB0 := Lib.hid hb0
  rw [← hb0] at hix0
  clear hb0
  by_cases h0 : 1 < n ∧ b0 = 48
  · have y3 : (1 : Int) < (n : Int) := by omega
    have y4 : (b0 == 48) = true := beq_t h0.2
    have HN := Lib.hid (show nmL l < 0 by rw [nmL_no (fun h => h.2.2.1 ⟨by omega, (head_gb (by omega)).2 (by rw [← HB0.out]; exact h0.2)⟩)]; omega)
    clear h0
    go_enter Tryz.func80, Tryz.ntmps80
    go_wp2
    go_ret2
    exact ⟨rfl, .inl ⟨HN.out, rfl⟩⟩
  have HOK := Lib.hid (show l.all dgt = true → nmL l = valD 0 l from fun h => nmL_yes ⟨by omega, by omega, fun h9 => h0 ⟨by omega, by rw [HB0.out]; exact (head_gb (by omega)).1 h9.2⟩, h⟩)
  have hcond : ((1 : Int) < (n : Int) ∧ (b0 == 48) = false) ∨ ¬ (1 : Int) < (n : Int) := by
    by_cases h9 : 1 < n
    · exact .inl ⟨by omega, beq_f fun e => h0 ⟨h9, e⟩⟩
    · exact .inr (by omega)
  clear h0
  have key : ∀ W : World, W = w → Calls Tryz.prog 80 #[.string s] W fun e w' => NmPost l w e w' := by
    intro W hWw
    subst hWw
    rcases hcond with ⟨y3, y4⟩ | y3
    all_goals
      go_enter Tryz.func80, Tryz.ntmps80
      go_wp2
      clear hix0
      go_loop [4, 5, 26] (fun nv _ i => ∃ j : Nat, j ≤ n ∧ i = .int .i64 j ∧ nv = .int .i64 (valD 0 (l.take j)) ∧ Hid ((l.take j).all dgt = true)) (fun _ _ i => n - (intOf i).toNat)
      case atStart => exact ⟨0, Nat.zero_le _, rfl, rfl, rfl⟩
      case round =>
        obtain ⟨j, hj, rfl, rfl, HD⟩ := hrel
        by_cases hlt : j < n
        rotate_left
        · have hnj : ¬ (j : Int) < (n : Int) := by omega
          have HE := Lib.hid (show nmL l = valD 0 (l.take j) by
            have e : l.take j = l := List.take_of_length_le (by omega)
            have h9 := HD.out
            rw [e] at h9 ⊢
            exact HOK.out h9)
          have HN := Lib.hid (valD_nn (l.take j) 0 HD.out (Int.le_refl _))
          go_wp2
          go_ret2
          exact ⟨rfl, .inr ⟨by rw [HE.out]; exact HN.out, by rw [HE.out]; rfl⟩⟩
        have hjl : j < l.length := by omega
        have j0 : (0 : Int) ≤ (j : Int) := by omega
        have j1 : (j : Int) < (n : Int) := by omega
        have hix : ∀ w : World, (Instr.index 9 (.string s) (.int .i64 (j : Int))).run Tryz.prog w = .ok (.int .u8 (gb l j)) w := fun w => idx_run l s HS.out j hjl w
        have hbr := gb_rng l j
        have HDG := Lib.hid (dgt_gb hjl)
        have HNO := Lib.hid (show ¬ (48 ≤ gb l j ∧ gb l j ≤ 57) → nmL l < 0 from fun hno => by
          rw [nmL_no (fun h => hno ((dgt_gb hjl).1 (List.all_eq_true.1 h.2.2.2 _ (List.getElem_mem hjl))))]; omega)
        have HV := Lib.hid (show valD 0 (l.take (j + 1)) = 10 * valD 0 (l.take j) + (gb l j - 48) by rw [take_b hjl, valD_snoc, gb_eq hjl])
        have hv0 := valD_nn (l.take j) 0 HD.out (Int.le_refl _)
        have hv1 : valD 0 (l.take j) < 1000000 := by
          have h9 := valD_lt (l.take j) 0 0 HD.out (Int.le_refl _) (by omega)
          rw [List.length_take] at h9
          have h8 : (10 : Int) ^ (0 + min j l.length) ≤ 1000000 := (by decide : ∀ m : Fin 7, (10 : Int) ^ (m : Nat) ≤ 1000000) ⟨0 + min j l.length, by omega⟩
          omega
        have HD2 := Lib.hid (show 48 ≤ gb l j ∧ gb l j ≤ 57 → (l.take (j + 1)).all dgt = true from fun h9 => by
          rw [take_b hjl, List.all_append, HD.out]
          simp only [List.all_cons, List.all_nil, Bool.and_true, Bool.true_and]
          exact HDG.out.2 h9)
        obtain ⟨b, hb⟩ : ∃ b, b = gb l j := ⟨_, rfl⟩
        rw [← hb] at hix hbr HNO HV HD2
        obtain ⟨v, hv⟩ : ∃ v, v = valD 0 (l.take j) := ⟨_, rfl⟩
        rw [← hv] at HV hv0 hv1 ⊢
        clear hb hv HDG
        by_cases z1 : b < 48
        · have HN := Lib.hid (HNO.out fun h => by omega)
          clear HNO HD2 HV
          go_wp2
          go_ret2
          exact ⟨rfl, .inl ⟨HN.out, rfl⟩⟩
        by_cases z2 : 57 < b
        · have HN := Lib.hid (HNO.out fun h => by omega)
          clear HNO HD2 HV
          go_wp2
          go_ret2
          exact ⟨rfl, .inl ⟨HN.out, rfl⟩⟩
        have HD3 := Lib.hid (HD2.out ⟨by omega, by omega⟩)
        have g8 : IntKind.u8.wrap (b - 48) = b - 48 := IntWalk.u8_in _ (by omega)
        have g9 : IntKind.i64.wrap (b - 48) = b - 48 := IntWalk.i64_in _ (by omega)
        have ga : IntKind.i64.wrap (10 * v) = 10 * v := IntWalk.i64_in _ (by omega)
        have gc : IntKind.i64.wrap (10 * v + (b - 48)) = 10 * v + (b - 48) := IntWalk.i64_in _ (by omega)
        clear HNO HD2
        go_wp2
        go_round
        case rel => exact ⟨j + 1, hlt, by go_num, by rw [HV.out], HD3.out⟩
        case measure => simp [intOf]; omega
  exact key w rfl
theorem TB_toList (l : List UInt8) : (TB l).toList = l := ByteArray.toList_mk l
theorem drop_b {l : List UInt8} {j : Nat} (h : j < l.length) : l.drop j = l[j] :: l.drop (j + 1) := List.drop_eq_getElem_cons h
set_option maxRecDepth 100000 in
set_option maxHeartbeats 2000000 in
theorem readNumber_any (l : List UInt8) (s : ByteArray) (hs : s = TB l) (w : World) (hl : l.length ≤ 4294967296) :
    Calls Tryz.prog 92 #[.string s] w fun e w' => e = .returned (.int .i64 (nmL l)) ∧ w = w' := by
  have hsz : s.size = l.length := by rw [hs, TB_size]
  have HS := Lib.hid hs
  have htl : s.toList = l := by rw [hs, TB_toList]
  have HTL := Lib.hid htl
  obtain ⟨n, hn⟩ : ∃ n, n = s.size := ⟨_, rfl⟩
  have hsn : s.size = n := hn.symm
  have hnl : n ≤ l.length := by omega
  have hnl2 : l.length ≤ n := by omega
  obtain ⟨R, hR⟩ : ∃ R, R = nmL l := ⟨_, rfl⟩
  rw [← hR]
  have HR := Lib.hid hR
  have HRD := Lib.hid (show R = if rdN 0 l < 0 ∨ l = [] ∨ l ≠ Lib.decDigits (rdN 0 l).toNat then -1 else rdN 0 l by rw [hR]; exact rd_nm l)
  clear hs hsz hn htl hR
  go_enter Tryz.func92, Tryz.ntmps92
  go_wp2
  go_loop [3, 4] (fun nv i => ∃ (j : Nat) (v : Int), j ≤ n ∧ i = .int .i64 j ∧ nv = .int .i64 v ∧ 0 ≤ v ∧ v ≤ 999999 ∧ Hid (rdN v (l.drop j) = rdN 0 l)) (fun _ i => n - (intOf i).toNat)
  case atStart => exact ⟨0, 0, Nat.zero_le _, rfl, rfl, Int.le_refl _, by omega, by show _ = _; rw [List.drop_zero]⟩
  case round =>
    obtain ⟨j, v, hj, rfl, rfl, hv0, hv1, HD⟩ := hrel
    by_cases hlt : j < n
    rotate_left
    · have hnj : ¬ (j : Int) < (n : Int) := by omega
      have HE := Lib.hid (show rdN 0 l = v by
        have h9 := HD.out
        rw [List.drop_of_length_le (by omega)] at h9
        exact h9.symm)
      obtain ⟨m, rfl⟩ := Int.eq_ofNat_of_zero_le hv0
      clear HD
      by_cases h0 : n = 0
      · have q0 : (s.toList == []) = true := by rw [HTL.out]; have : l = [] := List.eq_nil_of_length_eq_zero (by omega); rw [this]; rfl
        have q1 : s.toList.isEmpty = true := by rw [HTL.out]; have : l = [] := List.eq_nil_of_length_eq_zero (by omega); rw [this]; rfl
        have HN := Lib.hid (show R = -1 by
          rw [HRD.out, if_pos (.inr (.inl (List.eq_nil_of_length_eq_zero (by omega))))])
        go_wp2
        go_ret
        exact ⟨ret_int HN.out.symm, rfl⟩
      have hne : l ≠ [] := fun e => by rw [e] at hnl2 hnl; simp at hnl; omega
      have q1 : s.toList.isEmpty = false := by rw [HTL.out]; cases l with
        | nil => exact absurd rfl hne
        | cons a t => rfl
      obtain ⟨D, hD⟩ : ∃ D, D = TB (Lib.decDigits m) := ⟨_, rfl⟩
      have HDD := Lib.hid hD
      have hDl : D.toList = Lib.decDigits m := by rw [hD, TB_toList]
      have HDL := Lib.hid hDl
      have HNE := Lib.hid hne
      have hm : m ≤ 1000000 := by omega
      clear hD hDl hne
      by_cases he : l = Lib.decDigits m
      · have q3 : (s.toList == D.toList) = true := by rw [HTL.out, HDL.out, ← he]; simp
        have HN := Lib.hid (show R = m by
          rw [HRD.out, HE.out, if_neg]
          rintro (h | h | h)
          · omega
          · exact HNE.out h
          · exact h he)
        clear he
        go_wp2_with fail
        refine (number_any m m w (Nat.le_refl _) hm).mono ?_
        rw [← HDD.out]
        rintro e x1 ⟨rfl, hx1⟩
        subst hx1
        go_wp2
        go_ret
        exact ⟨ret_int HN.out.symm, rfl⟩
      · have q3 : (s.toList == D.toList) = false := by rw [HTL.out, HDL.out]; exact beq_false_of_ne he
        have HN := Lib.hid (show R = -1 by
          rw [HRD.out, HE.out, if_pos (.inr (.inr he))])
        clear he
        go_wp2_with fail
        refine (number_any m m w (Nat.le_refl _) hm).mono ?_
        rw [← HDD.out]
        rintro e x1 ⟨rfl, hx1⟩
        subst hx1
        go_wp2
        go_ret
        exact ⟨ret_int HN.out.symm, rfl⟩
    have hjl : j < l.length := by omega
    have j0 : (0 : Int) ≤ (j : Int) := by omega
    have j1 : (j : Int) < (n : Int) := by omega
    have hix : ∀ w : World, (Instr.index 9 (.string s) (.int .i64 (j : Int))).run Tryz.prog w = .ok (.int .u8 (gb l j)) w := fun w => idx_run l s HS.out j hjl w
    have hbr := gb_rng l j
    have HRR := Lib.hid (show rdN 0 l = if ¬ (48 ≤ gb l j ∧ gb l j ≤ 57) ∨ 99999 < v then -1 else rdN (10 * v + (gb l j - 48)) (l.drop (j + 1)) by
      rw [← HD.out, drop_b hjl]
      show (if dgt l[j] = false ∨ 99999 < v then -1 else rdN (10 * v + ((l[j].toNat : Int) - 48)) (l.drop (j + 1))) = _
      rw [← gb_eq hjl]
      have h9 : (dgt l[j] = false) ↔ ¬ (48 ≤ gb l j ∧ gb l j ≤ 57) := by
        rw [← dgt_gb hjl]; cases dgt l[j] <;> simp
      by_cases hc : dgt l[j] = false ∨ 99999 < v
      · rw [if_pos hc, if_pos (by rw [← h9]; exact hc)]
      · rw [if_neg hc, if_neg (by rw [← h9]; exact hc)])
    obtain ⟨b, hb⟩ : ∃ b, b = gb l j := ⟨_, rfl⟩
    rw [← hb] at hix hbr HRR
    clear hb HD
    by_cases z1 : b < 48
    · have HN := Lib.hid (show R = -1 by rw [HRD.out, if_pos (.inl (by rw [HRR.out, if_pos (.inl (by omega))]; omega))])
      clear HRR
      go_wp2
      go_ret
      exact ⟨ret_int HN.out.symm, rfl⟩
    by_cases z2 : 57 < b
    · have HN := Lib.hid (show R = -1 by rw [HRD.out, if_pos (.inl (by rw [HRR.out, if_pos (.inl (by omega))]; omega))])
      clear HRR
      go_wp2
      go_ret
      exact ⟨ret_int HN.out.symm, rfl⟩
    by_cases z3 : 99999 < v
    · have HN := Lib.hid (show R = -1 by rw [HRD.out, if_pos (.inl (by rw [HRR.out, if_pos (.inr z3)]; omega))])
      clear HRR
      go_wp2
      go_ret
      exact ⟨ret_int HN.out.symm, rfl⟩
    have HD2 := Lib.hid (show rdN (10 * v + (b - 48)) (l.drop (j + 1)) = rdN 0 l by rw [HRR.out, if_neg (by omega)])
    have g8 : IntKind.u8.wrap (b - 48) = b - 48 := IntWalk.u8_in _ (by omega)
    have g9 : IntKind.i64.wrap (b - 48) = b - 48 := IntWalk.i64_in _ (by omega)
    have ga : IntKind.i64.wrap (10 * v) = 10 * v := IntWalk.i64_in _ (by omega)
    have gc : IntKind.i64.wrap (10 * v + (b - 48)) = 10 * v + (b - 48) := IntWalk.i64_in _ (by omega)
    clear HRR
    go_wp2
    go_round
    case rel => exact ⟨j + 1, 10 * v + (b - 48), hlt, by go_num, rfl, by omega, by omega, HD2.out⟩
    case measure => simp [intOf]; omega
theorem SlSt : SlT Tryz.prog 43 9 (.string .empty) 1 16 := ⟨Tryz.underlying43, by kernel_rfl, rfl, by omega⟩
theorem splitC_take (c : UInt8) : ∀ (l cur : List UInt8), (∀ b ∈ l, b ≠ c) → splitC c cur l = [cur ++ l]
  | [], cur, _ => by simp [splitC]
  | b :: t, cur, h => by
    rw [splitC, if_neg (h b (by simp)), splitC_take c t (cur ++ [b]) fun x hx => h x (by simp [hx])]
    simp
end Go.Proofs.YtkgepklapglmdaaGreatDoor

namespace Go.Proofs.YtkgepklapglmdaaGreatDoor
open Go.RowKit
attribute [local go_sem ↓] Go.wp_at_zero Go.wp_at_succ

theorem drop_take_succ {l : List UInt8} {k j : Nat} (hk : k ≤ j) (hj : j < l.length) : (l.drop k).take (j + 1 - k) = (l.drop k).take (j - k) ++ [l[j]] := by
  rw [show j + 1 - k = (j - k) + 1 by omega, List.take_succ_eq_append_getElem (by rw [List.length_drop]; omega)]
  congr 2
  rw [List.getElem_drop]
  congr 1
  omega
set_option maxRecDepth 100000 in
set_option maxHeartbeats 2000000 in
theorem splitAt_any (c : UInt8) (cv : Int) (hcv : cv = (c.toNat : Int)) (l : List UInt8) (s : ByteArray) (hs : s = TB l) (w : World) (hl : l.length ≤ 4294967296) :
    Calls Tryz.prog 90 #[.string s, .int .u8 cv] w fun e w' => ∃ v, e = .returned v ∧ OwnS w' w.heap.size 9 v (splitC c [] l) ∧ Below w.heap.size w w' := by
  have hsz : s.size = l.length := by rw [hs, TB_size]
  have HS := Lib.hid hs
  have HCV := Lib.hid hcv
  obtain ⟨n, hn⟩ : ∃ n, n = s.size := ⟨_, rfl⟩
  have hsn : s.size = n := hn.symm
  have hnl : n ≤ l.length := by omega
  have hnl2 : l.length ≤ n := by omega
  obtain ⟨R, hR⟩ : ∃ R, R = splitC c [] l := ⟨_, rfl⟩
  rw [← hR]
  have HR := Lib.hid hR
  clear hs hsz hn hR hcv
  have b1 : Below w.heap.size w (w.alloc (.cells #[] 9)) := (Below.refl _ _).alloc (Nat.le_refl _) _
  have HO0 := Lib.hid (OwnS.empty w w.heap.size 9 (Nat.le_refl _))
  have HB0 := Lib.hid b1
  have hz0 : w.heap.size ≤ (w.alloc (.cells #[] 9)).heap.size := b1.size
  clear b1
  go_enter Tryz.func90, Tryz.ntmps90
  go_wp2
  go_loopw [5, 6, 7] (fun o f i wr => ∃ (j k : Nat) (xs : List (List UInt8)), j ≤ n ∧ k ≤ j ∧ xs.length ≤ j ∧ i = .int .i64 j ∧ f = .int .i64 k ∧ Hid (xs ++ splitC c ((l.drop k).take (j - k)) (l.drop j) = R) ∧ Hid (OwnS wr w.heap.size 9 o xs) ∧ Hid (Below w.heap.size w wr) ∧ w.heap.size ≤ wr.heap.size) (fun _ _ i _ => n - (intOf i).toNat)
  case atStart => exact ⟨0, 0, [], Nat.zero_le _, Nat.le_refl _, Nat.le_refl _, rfl, rfl, by show _ = _; rw [HR.out]; simp, HO0.out, HB0.out, hz0⟩
  case round =>
    obtain ⟨j, k, xs, hj, hkj, hxl, rfl, rfl, HD, HO, HB, hzr⟩ := hrel
    clear HO0 HB0 hz0
    obtain ⟨Ao, co, rfl, hco, hco2⟩ := HO.out.form
    by_cases hlt : j < n
    rotate_left
    · have hnj : ¬ (j : Int) < (n : Int) := by omega
      obtain ⟨E, hE⟩ : ∃ E, E = s.extract k n := ⟨_, rfl⟩
      have hE2 : s.extract k n = E := hE.symm
      have HE := Lib.hid (show E = TB ((l.drop k).take (n - k)) by rw [hE, HS.out, TB_ext])
      have k0 : (0 : Int) ≤ (k : Int) := by omega
      have k1 : (k : Int) ≤ (n : Int) := by omega
      have HF := Lib.hid (show xs ++ [(l.drop k).take (n - k)] = R by
        obtain rfl : j = n := by omega
        have h9 := HD.out
        rw [List.drop_of_length_le hnl2] at h9
        exact h9)
      clear hE HD
      go_wp2_with (at_builtin; refine wpList_appendS SlSt wr rfl (.tmp 29) (.tmp 33) rfl _ (.string E) (by rw [HE.out]) w.heap.size _ xs rfl rfl HO.out (by omega) (by omega) (by omega) ?_; intro v6 w6 ho6 hg6)
      have HO6 := Lib.hid (show OwnS w6 w.heap.size 9 v6 R by rw [← HF.out]; exact ho6)
      have HB6 := Lib.hid (HB.out.trans hg6.below)
      clear ho6 hg6
      go_ret
      exact ⟨_, rfl, HO6.out, HB6.out⟩
    have hjl : j < l.length := by omega
    have j0 : (0 : Int) ≤ (j : Int) := by omega
    have j1 : (j : Int) < (n : Int) := by omega
    have hix : ∀ w : World, (Instr.index 9 (.string s) (.int .i64 (j : Int))).run Tryz.prog w = .ok (.int .u8 (gb l j)) w := fun w => idx_run l s HS.out j hjl w
    have HDD := Lib.hid (show xs ++ (if gb l j = cv then (l.drop k).take (j - k) :: splitC c [] (l.drop (j + 1)) else splitC c ((l.drop k).take (j + 1 - k)) (l.drop (j + 1))) = R by
      have h9 := HD.out
      rw [drop_b hjl, splitC] at h9
      rw [drop_take_succ hkj hjl]
      by_cases hc : l[j] = c
      · rw [if_pos hc] at h9
        rw [if_pos (by rw [gb_eq hjl, hc, HCV.out])]
        exact h9
      · rw [if_neg hc] at h9
        rw [if_neg (fun e => hc (UInt8.toNat_inj.1 (by rw [gb_eq hjl, HCV.out] at e; omega)))]
        exact h9)
    obtain ⟨b, hb⟩ : ∃ b, b = gb l j := ⟨_, rfl⟩
    rw [← hb] at hix HDD
    clear hb HD
    by_cases hc : b = cv
    · have y1 : (b == cv) = true := beq_t hc
      obtain ⟨E, hE⟩ : ∃ E, E = s.extract k j := ⟨_, rfl⟩
      have hE2 : s.extract k j = E := hE.symm
      have HE := Lib.hid (show E = TB ((l.drop k).take (j - k)) by rw [hE, HS.out, TB_ext])
      have k0 : (0 : Int) ≤ (k : Int) := by omega
      have k1 : (k : Int) ≤ (j : Int) := by omega
      have k2 : (j : Int) ≤ (n : Int) := by omega
      have HF := Lib.hid (show (xs ++ [(l.drop k).take (j - k)]) ++ splitC c ((l.drop (j + 1)).take (j + 1 - (j + 1))) (l.drop (j + 1)) = R by
        rw [Nat.sub_self, List.take_zero, List.append_assoc]
        have h9 := HDD.out
        rw [if_pos hc] at h9
        exact h9)
      clear hE HDD hc
      go_wp2_with (at_builtin; refine wpList_appendS SlSt wr rfl (.tmp 20) (.tmp 25) rfl _ (.string E) (by rw [HE.out]) w.heap.size _ xs rfl rfl HO.out (by omega) (by omega) (by omega) ?_; intro v6 w6 ho6 hg6)
      have HO6 := Lib.hid ho6
      have HB6 := Lib.hid (HB.out.trans hg6.below)
      clear ho6 hg6
      go_roundw
      case rel => exact ⟨j + 1, j + 1, _, hlt, Nat.le_refl _, by rw [List.length_append, List.length_singleton]; omega, by go_num, by go_num, HF.out, HO6.out, HB6.out, by have := HB6.out.size; omega⟩
      case measure => simp [intOf]; omega
    · have y1 : (b == cv) = false := beq_f hc
      have HF := Lib.hid (show xs ++ splitC c ((l.drop k).take (j + 1 - k)) (l.drop (j + 1)) = R by
        have h9 := HDD.out
        rw [if_neg hc] at h9
        exact h9)
      clear HDD hc
      go_wp2
      go_roundw
      case rel => exact ⟨j + 1, k, xs, hlt, by omega, by omega, by go_num, rfl, HF.out, HO.out, HB.out, hzr⟩
      case measure => simp [intOf]; omega
end Go.Proofs.YtkgepklapglmdaaGreatDoor

namespace Go.Proofs.YtkgepklapglmdaaGreatDoor
open Go.RowKit
attribute [local go_sem ↓] Go.wp_at_zero Go.wp_at_succ

theorem evN_kind {ev : List Int} (h : evN ev ≠ []) : 0 ≤ gi ev 0 ∧ gi ev 0 ≤ 3 := by
  rcases kind_cases (gi ev 0) with e | e | e | e | ⟨h0, h1, h2, h3⟩
  · omega
  · omega
  · omega
  · omega
  · exfalso; apply h; unfold evN idxK; rw [if_neg h0, if_neg h1, if_neg h2, if_neg h3]; rfl
set_option maxRecDepth 100000 in
set_option maxHeartbeats 2000000 in
theorem showEvent_any (k a l r f t g : Int) (w : World) (ev : List Int) (hev : ev = [k, a, l, r, f, t, g]) (hI : ∀ x ∈ ev, I64 x) :
    Calls Tryz.prog 121 #[.agg #[.int .i64 k, .int .i64 a, .int .i64 l, .int .i64 r, .int .i64 f, .int .i64 t, .int .i64 g]] w fun e w' => e = .returned (.string (TB (fmtE ev))) ∧ Below w.heap.size w w' := by
  obtain ⟨R, hR⟩ : ∃ R, R = fmtE ev := ⟨_, rfl⟩
  rw [← hR]
  have HR := Lib.hid hR
  have HEV := Lib.hid hev
  have HI := Lib.hid (show I64 a ∧ I64 l ∧ I64 r ∧ I64 f ∧ I64 t ∧ I64 g by
    subst hev
    exact ⟨hI a (by simp), hI l (by simp), hI r (by simp), hI f (by simp), hI t (by simp), hI g (by simp)⟩)
  have HK := Lib.hid (show gi ev 0 = k by rw [hev]; rfl)
  have HLN := Lib.hid (show (evN ev).length ≤ 6 by rw [evN_len]; exact idxK_len _)
  clear hR hev hI
  have Hs := Lib.hid (show ∃ w1, w1 = (w.alloc (.cells #[.int .i64 k, .int .i64 a, .int .i64 l, .int .i64 r, .int .i64 f, .int .i64 t, .int .i64 g] 40)) ∧ Below w.heap.size w w1 ∧ w1.cell? ⟨w.heap.size, 0, none⟩ = some (.int .i64 k) ∧ w1.cell? ⟨w.heap.size, 1, none⟩ = some (.int .i64 a) ∧ w1.cell? ⟨w.heap.size, 2, none⟩ = some (.int .i64 l) ∧ w1.cell? ⟨w.heap.size, 3, none⟩ = some (.int .i64 r) ∧ w1.cell? ⟨w.heap.size, 4, none⟩ = some (.int .i64 f) ∧ w1.cell? ⟨w.heap.size, 5, none⟩ = some (.int .i64 t) ∧ w1.cell? ⟨w.heap.size, 6, none⟩ = some (.int .i64 g) ∧ w.heap.size < w1.heap.size from by
    have hb : Below w.heap.size w (w.alloc (.cells #[.int .i64 k, .int .i64 a, .int .i64 l, .int .i64 r, .int .i64 f, .int .i64 t, .int .i64 g] 40)) := (Below.refl _ _).alloc (Nat.le_refl _) _
    exact ⟨_, rfl, hb, by go_simp, by go_simp, by go_simp, by go_simp, by go_simp, by go_simp, by go_simp, by simp⟩)
  go_enter Tryz.func121, Tryz.ntmps121
  go_wp2_with fail
  obtain ⟨w1, hw1, hb0, c00, c01, c02, c03, c04, c05, c06, hz⟩ := Hs.out
  rw [← hw1]
  clear hw1 Hs
  refine (numbersOfS_any k a l r f t g w1 HI.out).mono ?_
  rw [← HEV.out]
  rintro e w2 ⟨v2, rfl, hi2, b2⟩
  obtain ⟨A, c, rfl, hc, hm⟩ := hi2.form
  replace c00 := keepB b2 c00; replace c01 := keepB b2 c01; replace c02 := keepB b2 c02; replace c03 := keepB b2 c03; replace c04 := keepB b2 c04; replace c05 := keepB b2 c05; replace c06 := keepB b2 c06
  have HB2 := Lib.hid (hb0.trans (b2.mono (by omega)))
  have hz2 : w.heap.size < w2.heap.size := by have := b2.size; omega
  have HL := Lib.hid hi2
  clear hi2 b2 hb0 c01 c02 c03 c04 c05 c06
  obtain ⟨xs, hxs⟩ : ∃ xs, xs = evN ev := ⟨_, rfl⟩
  have HXS := Lib.hid hxs
  rw [← hxs] at HL HLN hc ⊢
  have hn6 : xs.length ≤ 6 := HLN.out
  clear hxs
  by_cases h0 : xs.length = 0
  · have e0 : ((xs.length : Int) == 0) = true := beq_t (by omega)
    have Hno := Lib.hid (show R = [] by
      have : xs = [] := List.eq_nil_of_length_eq_zero h0
      rw [HR.out]; unfold fmtE; rw [← HXS.out, this]
      have h9 : evN ev = [] := by rw [← HXS.out, this]
      have : wrd (gi ev 0) = [] := by
        rcases kind_cases (gi ev 0) with e | e | e | e | ⟨h0, h1, h2, h3⟩
        · unfold evN at h9; rw [e] at h9; simp [idxK] at h9
        · unfold evN at h9; rw [e] at h9; simp [idxK] at h9
        · unfold evN at h9; rw [e] at h9; simp [idxK] at h9
        · unfold evN at h9; rw [e] at h9; simp [idxK] at h9
        · unfold wrd; rw [if_neg h0, if_neg h1, if_neg h2, if_neg h3]
      rw [this]; simp [numsT])
    clear h0
    go_wp2
    go_ret
    exact ⟨by rw [Hno.out]; rfl, HB2.out⟩
  have e0 : ((xs.length : Int) == 0) = false := beq_f (by omega)
  have hkr := evN_kind (ev := ev) (by rw [← HXS.out]; intro e; rw [e] at h0; exact h0 rfl)
  rw [HK.out] at hkr
  clear h0
  go_wp2_with fail
  refine (allIn_any _ _ _ xs 0 999999 w2 HL.out).mono ?_
  rintro e x3 ⟨rfl, hx3⟩
  subst hx3
  cases y1 : allR 0 999999 xs
  · have Hno := Lib.hid (show R = [] by rw [HR.out]; unfold fmtE; rw [← HXS.out, y1]; rfl)
    go_wp2
    go_ret
    exact ⟨by rw [Hno.out]; rfl, HB2.out⟩
  have HALL := Lib.hid (allR_iff.1 y1)
  have Hyes := Lib.hid (show R = wrd k ++ numsT xs by rw [HR.out]; unfold fmtE; rw [← HXS.out, if_pos y1, HK.out])
  clear y1
  obtain ⟨kn, rfl⟩ := Int.eq_ofNat_of_zero_le hkr.1
  have hk4 : kn < 4 := by omega
  have k4 : (kn : Int) < 4 := by omega
  have k0 : (0 : Int) ≤ (kn : Int) := by omega
  have cd : w2.drew.cell? ⟨w.heap.size, 0, none⟩ = some (.int .i64 (kn : Int)) := c00
  obtain ⟨z0, hz0⟩ : ∃ z, z = TB (wrd (kn : Int)) := ⟨_, rfl⟩
  have hz0s : z0.size ≤ 6 := by rw [hz0, TB_size]; exact wrd_len _
  have HZ0 := Lib.hid hz0
  clear hz0
  go_wp2
  refine wp_region_held_drew (S := fun w' => w'.cell? ⟨w.heap.size, 0, none⟩ = some (.int .i64 ((kn : Int)))) (by kernel_rfl) ?_ (fun hHeld => ?_)
  · (first | (try dsimp only); go_keep | (first | exact keepB bx1 (by assumption) | exact keepW bg1 (by first | (simp; done) | (simp; omega)) (by assumption)))
  refine wpAnyH_take (i := 1) (oi := ⟨some 17, _, _, _, _, _⟩) (v := _) rfl (by kernel_rfl) (by kernel_rfl) (by kernel_rfl) (fun _ _ _ h => h) (Or.inl ⟨by kernel_rfl, by intro w hSw; (try dsimp only at hSw); go_simp; try with_reducible rfl⟩) (by assumption) ?_
  simp only [Act.put, List.setIfInBounds_toArray, List.set_cons_zero, List.set_cons_succ]
  refine wpAnyH_take (i := 2) (oi := ⟨some 18, _, _, _, _, _⟩) (v := _) rfl (by kernel_rfl) (by kernel_rfl) (by kernel_rfl) (fun _ _ _ h => h) (Or.inl ⟨by kernel_rfl, by intro w hSw; (try dsimp only at hSw); go_simp; try with_reducible rfl⟩) (by assumption) ?_
  simp only [Act.put, List.setIfInBounds_toArray, List.set_cons_zero, List.set_cons_succ]
  refine wpAnyH_ready (rs := [0]) (by kernel_rfl) (by simp) ?_
  refine AllReadyH.cons (o := ⟨some 16, _, _, _, _, _⟩) rfl (fun K hK => ?_) AllReadyH.nil
  go_simp
  go_at_call 149
  refine (eventWords_any _).mono ?_
  rintro e w3 ⟨rfl, b3, hws⟩
  have bx1 := of_drew b3
  have cw : w3.cell? ⟨w2.heap.size, kn, none⟩ = some (.string z0) := by rw [HZ0.out]; exact hws kn hk4
  have c0w := keepB bx1 c00
  clear hws
  go_wp2_with fail
  refine hK.out _ _ ?_ (fun hHeld2 => ?_)
  · (first | (try dsimp only); go_keep | (first | exact keepB bx1 (by assumption) | exact keepW bg1 (by first | (simp; done) | (simp; omega)) (by assumption)))
  clear hK K hHeld
  have hHeld := hHeld2
  clear hHeld2
  try simp only [Act.put, List.setIfInBounds_toArray, List.set_cons_zero, List.set_cons_succ]
  refine wpAnyH_take (i := 3) (oi := ⟨some 19, _, _, _, _, _⟩) (v := _) rfl (by kernel_rfl) (by kernel_rfl) (by kernel_rfl) (fun _ _ _ h => h) (Or.inl ⟨by kernel_rfl, by intro w hSw; (try dsimp only at hSw); go_simp; try with_reducible rfl⟩) (by assumption) ?_
  simp only [Act.put, List.setIfInBounds_toArray, List.set_cons_zero, List.set_cons_succ]
  refine wpAnyH_ready (rs := [4]) (by kernel_rfl) (by simp) ?_
  refine AllReadyH.cons (o := ⟨some 20, _, _, _, _, _⟩) rfl (fun K hK => ?_) AllReadyH.nil
  go_simp
  refine hK.out _ _ ?_ (fun hHeld2 => ?_)
  · (first | (try dsimp only); go_keep | (first | exact keepB bx1 (by assumption) | exact keepW bg1 (by first | (simp; done) | (simp; omega)) (by assumption)))
  clear hK K hHeld
  have hHeld := hHeld2
  clear hHeld2
  try simp only [Act.put, List.setIfInBounds_toArray, List.set_cons_zero, List.set_cons_succ]
  refine wpAnyH_take (i := 5) (oi := ⟨some 4, _, _, _, _, _⟩) (v := _) rfl (by kernel_rfl) (by kernel_rfl) (by kernel_rfl) (fun _ _ _ h => h) (Or.inl ⟨by kernel_rfl, by intro w hSw; (try dsimp only at hSw); go_simp; try with_reducible rfl⟩) (by assumption) ?_
  simp only [Act.put, List.setIfInBounds_toArray, List.set_cons_zero, List.set_cons_succ]
  refine wpAnyH_done (by kernel_rfl) ?_ _
  have HB3 := Lib.hid (HB2.out.trans ((of_drew b3).mono (by omega)))
  have HL3 := Lib.hid (HL.out.below (of_drew b3) (Nat.le_refl _))
  have hz3 : w2.heap.size ≤ w3.heap.size := b3.size
  clear b3 bx1 cw c0w cd c00 hHeld HL HB2
  go_wp2
  go_loopw [4, 5] (fun s i wr => ∃ (j : Nat) (z : ByteArray), j ≤ xs.length ∧ i = .int .i64 j ∧ s = .string z ∧ z.size ≤ 6 + 7 * j ∧ Hid (z = TB (wrd (kn : Int) ++ numsT (xs.take j))) ∧ wr = w3) (fun _ i _ => xs.length - (intOf i).toNat)
  case atStart => exact ⟨0, z0, Nat.zero_le _, rfl, rfl, by omega, by show _ = _; rw [HZ0.out]; simp [numsT], rfl⟩
  case round =>
    obtain ⟨j, z, hj, rfl, rfl, hzs, HZ, rfl⟩ := hrel
    by_cases hlt : j < xs.length
    rotate_left
    · have hnj : ¬ (j : Int) < (xs.length : Int) := by omega
      have HE := Lib.hid (show z = TB R by rw [HZ.out, Hyes.out, List.take_of_length_le (by omega)])
      go_wp2
      go_ret
      exact ⟨by rw [← HE.out]; rfl, HB3.out⟩
    obtain ⟨b, o, hA, _, _, cx, _⟩ := HL3.out.cell hlt
    subst hA
    have hxr := HALL.out j hlt
    have HX := Lib.hid (show xs.take (j + 1) = xs.take j ++ [gi xs j] from take_gi hlt)
    obtain ⟨x, hxe⟩ : ∃ x, x = gi xs j := ⟨_, rfl⟩
    rw [← hxe] at cx hxr HX
    obtain ⟨xn, rfl⟩ := Int.eq_ofNat_of_zero_le hxr.1
    have hdl := (dec_len (n := xn) (by omega)).2
    obtain ⟨D, hD⟩ : ∃ D, D = TB (Lib.decDigits xn) := ⟨_, rfl⟩
    have hDs : D.size ≤ 6 := by rw [hD, TB_size]; exact hdl
    have HDD := Lib.hid hD
    obtain ⟨z1, hz1⟩ : ∃ z1, z1 = z ++ (ByteArray.mk #[32]) := ⟨_, rfl⟩
    have hz1e : z ++ (ByteArray.mk #[32]) = z1 := hz1.symm
    have h32 : (ByteArray.mk #[32]).size = 1 := rfl
    have hz1s : z1.size ≤ 7 + 7 * j := by rw [hz1, ByteArray.size_append]; omega
    have hsa : z.size + (ByteArray.mk #[32]).size ≤ 9223372036854775807 := by omega
    obtain ⟨z2, hz2e⟩ : ∃ z2, z2 = z1 ++ D := ⟨_, rfl⟩
    have hz2e' : z1 ++ D = z2 := hz2e.symm
    have hz2s : z2.size ≤ 6 + 7 * (j + 1) := by rw [hz2e, ByteArray.size_append]; omega
    have hsb : z1.size + D.size ≤ 9223372036854775807 := by omega
    have HZ2 := Lib.hid (show z2 = TB (wrd (kn : Int) ++ numsT (xs.take (j + 1))) by
      rw [hz2e, hz1, HZ.out, hD, HX.out, numsT_snoc, show (ByteArray.mk #[32]) = TB [32] from rfl, TB_app, TB_app, List.append_assoc, List.append_assoc]; rfl)
    have j0 : (0 : Int) ≤ (j : Int) := by omega
    have j1 : (j : Int) < (xs.length : Int) := by omega
    clear hxe hD hz1 hz2e h32
    go_wp2_with fail
    refine (number_any xn xn _ (Nat.le_refl _) (by omega)).mono ?_
    rw [← HDD.out]
    rintro e w4 ⟨rfl, hw4⟩
    subst hw4
    go_wp2
    go_roundw
    case rel => exact ⟨j + 1, z2, hlt, by go_num, rfl, hz2s, HZ2.out, trivial⟩
    case measure => simp [intOf]; omega
end Go.Proofs.YtkgepklapglmdaaGreatDoor

namespace Go.Proofs.YtkgepklapglmdaaGreatDoor
open Go.RowKit

/-! texts of events: written and read back -/
end Go.Proofs.YtkgepklapglmdaaGreatDoor
