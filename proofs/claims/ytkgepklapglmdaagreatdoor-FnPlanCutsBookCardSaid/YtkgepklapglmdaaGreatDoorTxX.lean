/-
  Texts merged into one: what each function does, and plain lemmas. No condition.
-/
import Derived.Test.YtkgepklapglmdaaGreatDoorMReel
import Derived.Test.YtkgepklapglmdaaGreatDoorShelf
import Derived.Test.YtkgepklapglmdaaGreatDoorLitI
import Derived.Test.YtkgepklapglmdaaGreatDoorPaX
import Derived.Lib.AppendIntMem
import Derived.Lib.SplitLaws
import Derived.Lib.ItoaNum
import Derived.Test.YtkgepklapglmdaaGreatDoorDrw1
namespace Go.Proofs.YtkgepklapglmdaaGreatDoor
open Go.RowKit
attribute [local go_sem ↓] Go.wp_at_zero Go.wp_at_succ

/-- a text of bytes -/
def TB (l : List UInt8) : ByteArray := ⟨l.toArray⟩
theorem TB_size (l : List UInt8) : (TB l).size = l.length := by simp [TB, ByteArray.size]
theorem TB_app (a b : List UInt8) : TB a ++ TB b = TB (a ++ b) := by unfold TB; rw [ByteArray.mk_append_mk]
theorem dec_len {n : Nat} (h : n < 1000000) : 1 ≤ (Lib.decDigits n).length ∧ (Lib.decDigits n).length ≤ 6 := by
  have key : ∀ k m : Nat, m < 10 ^ (k + 1) → (Lib.decDigits m).length ≤ k + 1 := by
    intro k
    induction k with
    | zero => intro m hm; rw [Lib.decDigits_one (by simpa using hm)]; simp
    | succ k ih =>
      intro m hm
      by_cases h1 : m < 10
      · rw [Lib.decDigits_one h1]; simp
      · rw [Lib.decDigits, dif_neg h1, List.length_append, List.length_singleton]
        have := ih (m / 10) (by rw [Nat.pow_succ] at hm; omega)
        omega
  refine ⟨?_, key 5 n (by simpa using h)⟩
  rw [Lib.decDigits]
  split
  · simp
  · simp
end Go.Proofs.YtkgepklapglmdaaGreatDoor

namespace Go.Proofs.YtkgepklapglmdaaGreatDoor
open Go.RowKit
attribute [local go_sem ↓] Go.wp_at_zero Go.wp_at_succ

theorem kind_cases (k : Int) : k = 0 ∨ k = 1 ∨ k = 2 ∨ k = 3 ∨ (k ≠ 0 ∧ k ≠ 1 ∧ k ≠ 2 ∧ k ≠ 3) := by omega
/-- the word of a kind -/
def wrd (k : Int) : List UInt8 := if k = 0 then [114, 101, 101, 108] else if k = 1 then [100, 101, 102, 101, 99, 116] else if k = 2 then [99, 117, 116] else if k = 3 then [115, 104, 105, 112] else []
/-- which fields the text has -/
def idxK (k : Int) : List Nat := if k = 0 then [1, 3, 5] else if k = 1 then [1, 2, 3, 4, 5, 6] else if k = 2 then [1, 2, 3, 4, 5] else if k = 3 then [1, 6] else []
theorem idxK_len (k : Int) : (idxK k).length ≤ 6 := by
  rcases kind_cases k with rfl | rfl | rfl | rfl | ⟨h0, h1, h2, h3⟩
  · decide
  · decide
  · decide
  · decide
  · unfold idxK; rw [if_neg h0, if_neg h1, if_neg h2, if_neg h3]; simp
theorem wordOf_any (k : Int) (w : World) : Calls Tryz.prog 79 #[.int .i64 k] w fun e w' => e = .returned (.string (TB (wrd k))) ∧ w = w' := by
  rcases kind_cases k with rfl | rfl | rfl | rfl | ⟨h0, h1, h2, h3⟩
  · go_enter Tryz.func79, Tryz.ntmps79
    go_wp2
    go_ret
    exact ⟨rfl, rfl⟩
  · go_enter Tryz.func79, Tryz.ntmps79
    go_wp2
    go_ret
    exact ⟨rfl, rfl⟩
  · go_enter Tryz.func79, Tryz.ntmps79
    go_wp2
    go_ret
    exact ⟨rfl, rfl⟩
  · go_enter Tryz.func79, Tryz.ntmps79
    go_wp2
    go_ret
    exact ⟨rfl, rfl⟩
  · have e : wrd k = [] := by unfold wrd; rw [if_neg h0, if_neg h1, if_neg h2, if_neg h3]
    rw [e]
    have e0 : (k == 0) = false := beq_f h0
    have e1 : (k == 1) = false := beq_f h1
    have e2 : (k == 2) = false := beq_f h2
    have e3 : (k == 3) = false := beq_f h3
    go_enter Tryz.func79, Tryz.ntmps79
    go_wp2
    go_ret
    exact ⟨rfl, rfl⟩
def NoPost (B : Nat) (k : Int) (w : World) (e : Ending) (w' : World) : Prop := ∃ (A : Option Addr), e = .returned (.slice A (idxK k).length (idxK k).length) ∧ Below w.heap.size w w' ∧ ∀ j, j < (idxK k).length → ∃ g, A = some ⟨g, 0, none⟩ ∧ w.heap.size ≤ g ∧ g < w'.heap.size ∧ w'.cell? ⟨g, j, none⟩ = some (.pointer (some ⟨B, (idxK k).getD j 0, none⟩))
set_option maxRecDepth 100000 in
theorem numbersOfI_any (B : Nat) (k : Int) (w : World) (h : w.cell? ⟨B, 0, none⟩ = some (.int .i64 k)) :
    Calls Tryz.prog 78 #[.pointer (some ⟨B, 0, none⟩)] w fun e w' => NoPost B k w e w' := by
  have HB := Lib.hid h
  rcases kind_cases k with rfl | rfl | rfl | rfl | ⟨h0, h1, h2, h3⟩
  · go_enter Tryz.func78, Tryz.ntmps78
    go_wp2
    refine wp_region_held_drew (S := fun w' => w'.cell? ⟨B, 0, none⟩ = some (.int .i64 0)) (by kernel_rfl) ?_ (fun hHeld => ?_)
    · (first | (try dsimp only); go_keep | (first | exact keepW bg1 (by first | (simp; done) | (simp; omega)) (by assumption)))
    refine tkW 0 13 rfl rfl (by kernel_rfl) hHeld (by intro w hSw; (try dsimp only at hSw); go_simp; try with_reducible rfl) ?_ (fun _ _ _ h => h)
    simp only [Act.put, lyA, lyB, lyC]
    refine tkW 1 14 rfl rfl (by kernel_rfl) hHeld (by intro w hSw; (try dsimp only at hSw); go_simp; try with_reducible rfl) ?_ (fun _ _ _ h => h)
    simp only [Act.put, lyA, lyB, lyC]
    refine tkW 2 15 rfl rfl (by kernel_rfl) hHeld (by intro w hSw; (try dsimp only at hSw); go_simp; try with_reducible rfl) ?_ (fun _ _ _ h => h)
    simp only [Act.put, lyA, lyB, lyC]
    refine tkW 3 16 rfl rfl (by kernel_rfl) hHeld (by intro w hSw; (try dsimp only at hSw); go_simp; try with_reducible rfl) ?_ (fun _ _ _ h => h)
    simp only [Act.put, lyA, lyB, lyC]
    refine tkW 4 17 rfl rfl (by kernel_rfl) hHeld (by intro w hSw; (try dsimp only at hSw); go_simp; try with_reducible rfl) ?_ (fun _ _ _ h => h)
    simp only [Act.put, lyA, lyB, lyC]
    refine tkW 5 18 rfl rfl (by kernel_rfl) hHeld (by intro w hSw; (try dsimp only at hSw); go_simp; try with_reducible rfl) ?_ (fun _ _ _ h => h)
    simp only [Act.put, lyA, lyB, lyC]
    refine tkW 6 19 rfl rfl (by kernel_rfl) hHeld (by intro w hSw; (try dsimp only at hSw); go_simp; try with_reducible rfl) ?_ (fun _ _ _ h => h)
    simp only [Act.put, lyA, lyB, lyC]
    refine tkW 7 20 rfl rfl (by kernel_rfl) hHeld (by intro w hSw; (try dsimp only at hSw); go_simp; try with_reducible rfl) ?_ (fun _ _ _ h => h)
    simp only [Act.put, lyA, lyB, lyC]
    refine tkW 8 21 rfl rfl (by kernel_rfl) hHeld (by intro w hSw; (try dsimp only at hSw); go_simp; try with_reducible rfl) ?_ (fun _ _ _ h => h)
    simp only [Act.put, lyA, lyB, lyC]
    refine wpAnyH_ready (rs := [9]) (by kernel_rfl) (by simp) ?_
    refine AllReadyH.cons (o := ⟨some 22, _, _, _, _, _⟩) rfl (fun K hK => ?_) AllReadyH.nil
    go_simp
    refine hK.out _ _ ?_ (fun hHeld2 => ?_)
    · (first | (try dsimp only); go_keep | (first | exact keepW bg1 (by first | (simp; done) | (simp; omega)) (by assumption)))
    clear hK K hHeld
    have hHeld := hHeld2
    clear hHeld2
    try simp only [Act.put, lyA, lyB, lyC]
    refine tkW 10 2 rfl rfl (by kernel_rfl) hHeld (by intro w hSw; (try dsimp only at hSw); go_simp; try with_reducible rfl) ?_ (fun _ _ _ h => h)
    simp only [Act.put, lyA, lyB, lyC]
    refine wpAnyH_done (by kernel_rfl) ?_ _
    clear hHeld
    go_wp2
    go_ret
    refine ⟨some ⟨w.heap.size, 0, none⟩, rfl, ((Below.refl _ _).alloc (Nat.le_refl _) _).drew, fun j hj => ⟨w.heap.size, rfl, Nat.le_refl _, by simp, ?_⟩⟩
    have hj3 : j < 3 := hj
    obtain rfl | rfl | rfl : j = 0 ∨ j = 1 ∨ j = 2 := by omega
    · go_simp; rfl
    · go_simp; rfl
    · go_simp; rfl
  · go_enter Tryz.func78, Tryz.ntmps78
    go_wp2
    refine wp_region_held_drew (S := fun w' => w'.cell? ⟨B, 0, none⟩ = some (.int .i64 1)) (by kernel_rfl) ?_ (fun hHeld => ?_)
    · (first | (try dsimp only); go_keep | (first | exact keepW bg1 (by first | (simp; done) | (simp; omega)) (by assumption)))
    refine tkW 0 25 rfl rfl (by kernel_rfl) hHeld (by intro w hSw; (try dsimp only at hSw); go_simp; try with_reducible rfl) ?_ (fun _ _ _ h => h)
    simp only [Act.put, lyA, lyB, lyC]
    refine tkW 1 26 rfl rfl (by kernel_rfl) hHeld (by intro w hSw; (try dsimp only at hSw); go_simp; try with_reducible rfl) ?_ (fun _ _ _ h => h)
    simp only [Act.put, lyA, lyB, lyC]
    refine tkW 2 27 rfl rfl (by kernel_rfl) hHeld (by intro w hSw; (try dsimp only at hSw); go_simp; try with_reducible rfl) ?_ (fun _ _ _ h => h)
    simp only [Act.put, lyA, lyB, lyC]
    refine tkW 3 28 rfl rfl (by kernel_rfl) hHeld (by intro w hSw; (try dsimp only at hSw); go_simp; try with_reducible rfl) ?_ (fun _ _ _ h => h)
    simp only [Act.put, lyA, lyB, lyC]
    refine tkW 4 29 rfl rfl (by kernel_rfl) hHeld (by intro w hSw; (try dsimp only at hSw); go_simp; try with_reducible rfl) ?_ (fun _ _ _ h => h)
    simp only [Act.put, lyA, lyB, lyC]
    refine tkW 5 30 rfl rfl (by kernel_rfl) hHeld (by intro w hSw; (try dsimp only at hSw); go_simp; try with_reducible rfl) ?_ (fun _ _ _ h => h)
    simp only [Act.put, lyA, lyB, lyC]
    refine tkW 6 31 rfl rfl (by kernel_rfl) hHeld (by intro w hSw; (try dsimp only at hSw); go_simp; try with_reducible rfl) ?_ (fun _ _ _ h => h)
    simp only [Act.put, lyA, lyB, lyC]
    refine tkW 7 32 rfl rfl (by kernel_rfl) hHeld (by intro w hSw; (try dsimp only at hSw); go_simp; try with_reducible rfl) ?_ (fun _ _ _ h => h)
    simp only [Act.put, lyA, lyB, lyC]
    refine tkW 8 33 rfl rfl (by kernel_rfl) hHeld (by intro w hSw; (try dsimp only at hSw); go_simp; try with_reducible rfl) ?_ (fun _ _ _ h => h)
    simp only [Act.put, lyA, lyB, lyC]
    refine tkW 9 34 rfl rfl (by kernel_rfl) hHeld (by intro w hSw; (try dsimp only at hSw); go_simp; try with_reducible rfl) ?_ (fun _ _ _ h => h)
    simp only [Act.put, lyA, lyB, lyC]
    refine tkW 10 35 rfl rfl (by kernel_rfl) hHeld (by intro w hSw; (try dsimp only at hSw); go_simp; try with_reducible rfl) ?_ (fun _ _ _ h => h)
    simp only [Act.put, lyA, lyB, lyC]
    refine tkW 11 36 rfl rfl (by kernel_rfl) hHeld (by intro w hSw; (try dsimp only at hSw); go_simp; try with_reducible rfl) ?_ (fun _ _ _ h => h)
    simp only [Act.put, lyA, lyB, lyC]
    refine tkW 12 37 rfl rfl (by kernel_rfl) hHeld (by intro w hSw; (try dsimp only at hSw); go_simp; try with_reducible rfl) ?_ (fun _ _ _ h => h)
    simp only [Act.put, lyA, lyB, lyC]
    refine tkW 13 38 rfl rfl (by kernel_rfl) hHeld (by intro w hSw; (try dsimp only at hSw); go_simp; try with_reducible rfl) ?_ (fun _ _ _ h => h)
    simp only [Act.put, lyA, lyB, lyC]
    refine tkW 14 39 rfl rfl (by kernel_rfl) hHeld (by intro w hSw; (try dsimp only at hSw); go_simp; try with_reducible rfl) ?_ (fun _ _ _ h => h)
    simp only [Act.put, lyA, lyB, lyC]
    refine tkW 15 40 rfl rfl (by kernel_rfl) hHeld (by intro w hSw; (try dsimp only at hSw); go_simp; try with_reducible rfl) ?_ (fun _ _ _ h => h)
    simp only [Act.put, lyA, lyB, lyC]
    refine tkW 16 41 rfl rfl (by kernel_rfl) hHeld (by intro w hSw; (try dsimp only at hSw); go_simp; try with_reducible rfl) ?_ (fun _ _ _ h => h)
    simp only [Act.put, lyA, lyB, lyC]
    refine tkW 17 42 rfl rfl (by kernel_rfl) hHeld (by intro w hSw; (try dsimp only at hSw); go_simp; try with_reducible rfl) ?_ (fun _ _ _ h => h)
    simp only [Act.put, lyA, lyB, lyC]
    refine wpAnyH_ready (rs := [18]) (by kernel_rfl) (by simp) ?_
    refine AllReadyH.cons (o := ⟨some 43, _, _, _, _, _⟩) rfl (fun K hK => ?_) AllReadyH.nil
    go_simp
    refine hK.out _ _ ?_ (fun hHeld2 => ?_)
    · (first | (try dsimp only); go_keep | (first | exact keepW bg1 (by first | (simp; done) | (simp; omega)) (by assumption)))
    clear hK K hHeld
    have hHeld := hHeld2
    clear hHeld2
    try simp only [Act.put, lyA, lyB, lyC]
    refine tkW 19 2 rfl rfl (by kernel_rfl) hHeld (by intro w hSw; (try dsimp only at hSw); go_simp; try with_reducible rfl) ?_ (fun _ _ _ h => h)
    simp only [Act.put, lyA, lyB, lyC]
    refine wpAnyH_done (by kernel_rfl) ?_ _
    clear hHeld
    go_wp2
    go_ret
    refine ⟨some ⟨w.heap.size, 0, none⟩, rfl, ((Below.refl _ _).alloc (Nat.le_refl _) _).drew, fun j hj => ⟨w.heap.size, rfl, Nat.le_refl _, by simp, ?_⟩⟩
    have hj6 : j < 6 := hj
    obtain rfl | rfl | rfl | rfl | rfl | rfl : j = 0 ∨ j = 1 ∨ j = 2 ∨ j = 3 ∨ j = 4 ∨ j = 5 := by omega
    · go_simp; rfl
    · go_simp; rfl
    · go_simp; rfl
    · go_simp; rfl
    · go_simp; rfl
    · go_simp; rfl
  · go_enter Tryz.func78, Tryz.ntmps78
    go_wp2
    refine wp_region_held_drew (S := fun w' => w'.cell? ⟨B, 0, none⟩ = some (.int .i64 2)) (by kernel_rfl) ?_ (fun hHeld => ?_)
    · (first | (try dsimp only); go_keep | (first | exact keepW bg1 (by first | (simp; done) | (simp; omega)) (by assumption)))
    refine tkW 0 46 rfl rfl (by kernel_rfl) hHeld (by intro w hSw; (try dsimp only at hSw); go_simp; try with_reducible rfl) ?_ (fun _ _ _ h => h)
    simp only [Act.put, lyA, lyB, lyC]
    refine tkW 1 47 rfl rfl (by kernel_rfl) hHeld (by intro w hSw; (try dsimp only at hSw); go_simp; try with_reducible rfl) ?_ (fun _ _ _ h => h)
    simp only [Act.put, lyA, lyB, lyC]
    refine tkW 2 48 rfl rfl (by kernel_rfl) hHeld (by intro w hSw; (try dsimp only at hSw); go_simp; try with_reducible rfl) ?_ (fun _ _ _ h => h)
    simp only [Act.put, lyA, lyB, lyC]
    refine tkW 3 49 rfl rfl (by kernel_rfl) hHeld (by intro w hSw; (try dsimp only at hSw); go_simp; try with_reducible rfl) ?_ (fun _ _ _ h => h)
    simp only [Act.put, lyA, lyB, lyC]
    refine tkW 4 50 rfl rfl (by kernel_rfl) hHeld (by intro w hSw; (try dsimp only at hSw); go_simp; try with_reducible rfl) ?_ (fun _ _ _ h => h)
    simp only [Act.put, lyA, lyB, lyC]
    refine tkW 5 51 rfl rfl (by kernel_rfl) hHeld (by intro w hSw; (try dsimp only at hSw); go_simp; try with_reducible rfl) ?_ (fun _ _ _ h => h)
    simp only [Act.put, lyA, lyB, lyC]
    refine tkW 6 52 rfl rfl (by kernel_rfl) hHeld (by intro w hSw; (try dsimp only at hSw); go_simp; try with_reducible rfl) ?_ (fun _ _ _ h => h)
    simp only [Act.put, lyA, lyB, lyC]
    refine tkW 7 53 rfl rfl (by kernel_rfl) hHeld (by intro w hSw; (try dsimp only at hSw); go_simp; try with_reducible rfl) ?_ (fun _ _ _ h => h)
    simp only [Act.put, lyA, lyB, lyC]
    refine tkW 8 54 rfl rfl (by kernel_rfl) hHeld (by intro w hSw; (try dsimp only at hSw); go_simp; try with_reducible rfl) ?_ (fun _ _ _ h => h)
    simp only [Act.put, lyA, lyB, lyC]
    refine tkW 9 55 rfl rfl (by kernel_rfl) hHeld (by intro w hSw; (try dsimp only at hSw); go_simp; try with_reducible rfl) ?_ (fun _ _ _ h => h)
    simp only [Act.put, lyA, lyB, lyC]
    refine tkW 10 56 rfl rfl (by kernel_rfl) hHeld (by intro w hSw; (try dsimp only at hSw); go_simp; try with_reducible rfl) ?_ (fun _ _ _ h => h)
    simp only [Act.put, lyA, lyB, lyC]
    refine tkW 11 57 rfl rfl (by kernel_rfl) hHeld (by intro w hSw; (try dsimp only at hSw); go_simp; try with_reducible rfl) ?_ (fun _ _ _ h => h)
    simp only [Act.put, lyA, lyB, lyC]
    refine tkW 12 58 rfl rfl (by kernel_rfl) hHeld (by intro w hSw; (try dsimp only at hSw); go_simp; try with_reducible rfl) ?_ (fun _ _ _ h => h)
    simp only [Act.put, lyA, lyB, lyC]
    refine tkW 13 59 rfl rfl (by kernel_rfl) hHeld (by intro w hSw; (try dsimp only at hSw); go_simp; try with_reducible rfl) ?_ (fun _ _ _ h => h)
    simp only [Act.put, lyA, lyB, lyC]
    refine tkW 14 60 rfl rfl (by kernel_rfl) hHeld (by intro w hSw; (try dsimp only at hSw); go_simp; try with_reducible rfl) ?_ (fun _ _ _ h => h)
    simp only [Act.put, lyA, lyB, lyC]
    refine wpAnyH_ready (rs := [15]) (by kernel_rfl) (by simp) ?_
    refine AllReadyH.cons (o := ⟨some 61, _, _, _, _, _⟩) rfl (fun K hK => ?_) AllReadyH.nil
    go_simp
    refine hK.out _ _ ?_ (fun hHeld2 => ?_)
    · (first | (try dsimp only); go_keep | (first | exact keepW bg1 (by first | (simp; done) | (simp; omega)) (by assumption)))
    clear hK K hHeld
    have hHeld := hHeld2
    clear hHeld2
    try simp only [Act.put, lyA, lyB, lyC]
    refine tkW 16 2 rfl rfl (by kernel_rfl) hHeld (by intro w hSw; (try dsimp only at hSw); go_simp; try with_reducible rfl) ?_ (fun _ _ _ h => h)
    simp only [Act.put, lyA, lyB, lyC]
    refine wpAnyH_done (by kernel_rfl) ?_ _
    clear hHeld
    go_wp2
    go_ret
    refine ⟨some ⟨w.heap.size, 0, none⟩, rfl, ((Below.refl _ _).alloc (Nat.le_refl _) _).drew, fun j hj => ⟨w.heap.size, rfl, Nat.le_refl _, by simp, ?_⟩⟩
    have hj5 : j < 5 := hj
    obtain rfl | rfl | rfl | rfl | rfl : j = 0 ∨ j = 1 ∨ j = 2 ∨ j = 3 ∨ j = 4 := by omega
    · go_simp; rfl
    · go_simp; rfl
    · go_simp; rfl
    · go_simp; rfl
    · go_simp; rfl
  · go_enter Tryz.func78, Tryz.ntmps78
    go_wp2
    refine wp_region_held_drew (S := fun w' => w'.cell? ⟨B, 0, none⟩ = some (.int .i64 3)) (by kernel_rfl) ?_ (fun hHeld => ?_)
    · (first | (try dsimp only); go_keep | (first | exact keepW bg1 (by first | (simp; done) | (simp; omega)) (by assumption)))
    refine tkW 0 64 rfl rfl (by kernel_rfl) hHeld (by intro w hSw; (try dsimp only at hSw); go_simp; try with_reducible rfl) ?_ (fun _ _ _ h => h)
    simp only [Act.put, lyA, lyB, lyC]
    refine tkW 1 65 rfl rfl (by kernel_rfl) hHeld (by intro w hSw; (try dsimp only at hSw); go_simp; try with_reducible rfl) ?_ (fun _ _ _ h => h)
    simp only [Act.put, lyA, lyB, lyC]
    refine tkW 2 66 rfl rfl (by kernel_rfl) hHeld (by intro w hSw; (try dsimp only at hSw); go_simp; try with_reducible rfl) ?_ (fun _ _ _ h => h)
    simp only [Act.put, lyA, lyB, lyC]
    refine tkW 3 67 rfl rfl (by kernel_rfl) hHeld (by intro w hSw; (try dsimp only at hSw); go_simp; try with_reducible rfl) ?_ (fun _ _ _ h => h)
    simp only [Act.put, lyA, lyB, lyC]
    refine tkW 4 68 rfl rfl (by kernel_rfl) hHeld (by intro w hSw; (try dsimp only at hSw); go_simp; try with_reducible rfl) ?_ (fun _ _ _ h => h)
    simp only [Act.put, lyA, lyB, lyC]
    refine tkW 5 69 rfl rfl (by kernel_rfl) hHeld (by intro w hSw; (try dsimp only at hSw); go_simp; try with_reducible rfl) ?_ (fun _ _ _ h => h)
    simp only [Act.put, lyA, lyB, lyC]
    refine wpAnyH_ready (rs := [6]) (by kernel_rfl) (by simp) ?_
    refine AllReadyH.cons (o := ⟨some 70, _, _, _, _, _⟩) rfl (fun K hK => ?_) AllReadyH.nil
    go_simp
    refine hK.out _ _ ?_ (fun hHeld2 => ?_)
    · (first | (try dsimp only); go_keep | (first | exact keepW bg1 (by first | (simp; done) | (simp; omega)) (by assumption)))
    clear hK K hHeld
    have hHeld := hHeld2
    clear hHeld2
    try simp only [Act.put, lyA, lyB, lyC]
    refine tkW 7 2 rfl rfl (by kernel_rfl) hHeld (by intro w hSw; (try dsimp only at hSw); go_simp; try with_reducible rfl) ?_ (fun _ _ _ h => h)
    simp only [Act.put, lyA, lyB, lyC]
    refine wpAnyH_done (by kernel_rfl) ?_ _
    clear hHeld
    go_wp2
    go_ret
    refine ⟨some ⟨w.heap.size, 0, none⟩, rfl, ((Below.refl _ _).alloc (Nat.le_refl _) _).drew, fun j hj => ⟨w.heap.size, rfl, Nat.le_refl _, by simp, ?_⟩⟩
    have hj2 : j < 2 := hj
    obtain rfl | rfl : j = 0 ∨ j = 1 := by omega
    · go_simp; rfl
    · go_simp; rfl
  · have e : idxK k = [] := by unfold idxK; rw [if_neg h0, if_neg h1, if_neg h2, if_neg h3]
    have e0 : (k == 0) = false := beq_f h0
    have e1 : (k == 1) = false := beq_f h1
    have e2 : (k == 2) = false := beq_f h2
    have e3 : (k == 3) = false := beq_f h3
    have HE := Lib.hid e
    clear e
    go_enter Tryz.func78, Tryz.ntmps78
    go_wp2
    go_ret
    exact ⟨none, by rw [HE.out]; rfl, Below.refl _ _, fun j hj => by rw [HE.out] at hj; exact absurd hj (by simp)⟩
/-- the numbers of an event that its text has -/
def evN (ev : List Int) : List Int := (idxK (gi ev 0)).map (gi ev)

end Go.Proofs.YtkgepklapglmdaaGreatDoor

namespace Go.Proofs.YtkgepklapglmdaaGreatDoor
open Go.RowKit
attribute [local go_sem ↓] Go.wp_at_zero Go.wp_at_succ

/-- the table of powers stays where it is -/
def Pow (B : Nat) (w : World) : Prop := Lib.TabBelow Tryz.prog B w "internal/strconv.uint64pow10" .u64 Lib.pow10Tab ∧ B ≤ w.heap.size
theorem Pow.below {B : Nat} {w w' : World} (h : Pow B w) (b : Below w.heap.size w w') : Pow B w' := ⟨fun x hx => h.1 x ((b.mono h.2).trans hx), Nat.le_trans h.2 b.size⟩
theorem Itoa_any (B : Nat) (n : Int) (w : World) (hp : Pow B w) (h0 : 0 ≤ n) (h1 : n ≤ 999999) :
    Calls Tryz.prog 81 #[.int .i64 n] w fun e w' => e = .returned (.string (TB (Lib.decDigits n.toNat))) ∧ Below w.heap.size w w' := by
  refine (Tryz.strconv_Itoa n (by omega) (by omega) w hp.1.here).mono ?_
  rintro e w' ⟨rfl, k, os, rfl⟩
  refine ⟨?_, Lib.below_grow _ _ (Nat.le_refl _) _ _⟩
  have e : Lib.itoa n = Lib.decDigits n.toNat := by unfold Lib.itoa; rw [if_neg (by omega)]
  rw [e]; rfl
/-- the numbers in the text, each behind a space -/
def numsT (xs : List Int) : List UInt8 := xs.flatMap fun x => 32 :: Lib.decDigits x.toNat
theorem numsT_snoc (xs : List Int) (x : Int) : numsT (xs ++ [x]) = numsT xs ++ (32 :: Lib.decDigits x.toNat) := by simp [numsT]
/-- the text of an event -/
def fmtE (ev : List Int) : List UInt8 := if allR 0 999999 (evN ev) = true then wrd (gi ev 0) ++ numsT (evN ev) else []
theorem evN_len (ev : List Int) : (evN ev).length = (idxK (gi ev 0)).length := by simp [evN]
theorem idx_lt {k : Int} {j : Nat} (h : j < (idxK k).length) : (idxK k).getD j 0 < 7 := by
  rcases kind_cases k with rfl | rfl | rfl | rfl | ⟨h0, h1, h2, h3⟩
  · exact (by decide : ∀ j, j < 3 → [1, 3, 5].getD j 0 < 7) j h
  · exact (by decide : ∀ j, j < 6 → [1, 2, 3, 4, 5, 6].getD j 0 < 7) j h
  · exact (by decide : ∀ j, j < 5 → [1, 2, 3, 4, 5].getD j 0 < 7) j h
  · exact (by decide : ∀ j, j < 2 → [1, 6].getD j 0 < 7) j h
  · unfold idxK at h; rw [if_neg h0, if_neg h1, if_neg h2, if_neg h3] at h; exact absurd h (by simp)
theorem evN_gi {ev : List Int} {j : Nat} (h : j < (idxK (gi ev 0)).length) : gi (evN ev) j = gi ev ((idxK (gi ev 0)).getD j 0) := by
  unfold evN
  rw [gi_eq (by simpa using h)]
  simp [List.getD, h]
theorem wrd_len (k : Int) : (wrd k).length ≤ 6 := by
  rcases kind_cases k with rfl | rfl | rfl | rfl | ⟨h0, h1, h2, h3⟩
  · decide
  · decide
  · decide
  · decide
  · unfold wrd; rw [if_neg h0, if_neg h1, if_neg h2, if_neg h3]; simp
set_option maxRecDepth 100000 in
set_option maxHeartbeats 2000000 in
theorem FormatEventI_any (B : Nat) (k a l r f t g : Int) (w : World) (hp : Pow B w) (ev : List Int) (hev : ev = [k, a, l, r, f, t, g]) (hI : ∀ x ∈ ev, I64 x) :
    Calls Tryz.prog 41 #[.agg #[.int .i64 k, .int .i64 a, .int .i64 l, .int .i64 r, .int .i64 f, .int .i64 t, .int .i64 g]] w fun e w' => e = .returned (.string (TB (fmtE ev))) ∧ Below w.heap.size w w' := by
  obtain ⟨R, hR⟩ : ∃ R, R = fmtE ev := ⟨_, rfl⟩
  rw [← hR]
  have HR := Lib.hid hR
  have HEV := Lib.hid hev
  have HP := Lib.hid hp
  have HI := Lib.hid (show ∀ i, I64 (gi ev i) from fun i => by
    by_cases h : i < ev.length
    · rw [gi_eq h]; exact hI _ (List.getElem_mem h)
    · have : gi ev i = 0 := by unfold gi; rw [List.getD_eq_getElem?_getD, List.getElem?_eq_none (by omega)]; rfl
      rw [this]; exact ⟨by omega, by omega⟩)
  have hk : gi ev 0 = k := by rw [hev]; rfl
  have HK := Lib.hid hk
  clear hR hev hp hI hk
  have Hs := Lib.hid (show ∃ w1, w1 = (w.alloc (.cells #[.int .i64 k, .int .i64 a, .int .i64 l, .int .i64 r, .int .i64 f, .int .i64 t, .int .i64 g] 40)) ∧ Below w.heap.size w w1 ∧ w1.cell? ⟨w.heap.size, 0, none⟩ = some (.int .i64 k) ∧ w1.cell? ⟨w.heap.size, 1, none⟩ = some (.int .i64 a) ∧ w1.cell? ⟨w.heap.size, 2, none⟩ = some (.int .i64 l) ∧ w1.cell? ⟨w.heap.size, 3, none⟩ = some (.int .i64 r) ∧ w1.cell? ⟨w.heap.size, 4, none⟩ = some (.int .i64 f) ∧ w1.cell? ⟨w.heap.size, 5, none⟩ = some (.int .i64 t) ∧ w1.cell? ⟨w.heap.size, 6, none⟩ = some (.int .i64 g) ∧ w.heap.size < w1.heap.size from by
    have hb : Below w.heap.size w (w.alloc (.cells #[.int .i64 k, .int .i64 a, .int .i64 l, .int .i64 r, .int .i64 f, .int .i64 t, .int .i64 g] 40)) := (Below.refl _ _).alloc (Nat.le_refl _) _
    exact ⟨_, rfl, hb, by go_simp, by go_simp, by go_simp, by go_simp, by go_simp, by go_simp, by go_simp, by simp⟩)
  go_enter Tryz.func41, Tryz.ntmps41
  go_wp2_with fail
  obtain ⟨w1, hw1, hb0, c00, c01, c02, c03, c04, c05, c06, hz⟩ := Hs.out
  rw [← hw1]
  clear hw1 Hs
  refine (wordOf_any k w1).mono ?_
  rintro e x1 ⟨rfl, hx1⟩
  subst hx1
  have HB1 := Lib.hid hb0
  go_wp2_with fail
  refine (numbersOfI_any w.heap.size k w1 c00).mono ?_
  rintro e w2 ⟨A, rfl, b2, hcs⟩
  have HC := Lib.hid (show ∀ i, i < 7 → w2.cell? ⟨w.heap.size, i, none⟩ = some (.int .i64 (gi ev i)) from fun i hi => by
    have key : w1.cell? ⟨w.heap.size, i, none⟩ = some (.int .i64 (gi ev i)) := by
      rw [HEV.out]
      obtain rfl | rfl | rfl | rfl | rfl | rfl | rfl : i = 0 ∨ i = 1 ∨ i = 2 ∨ i = 3 ∨ i = 4 ∨ i = 5 ∨ i = 6 := by omega
      · exact c00
      · exact c01
      · exact c02
      · exact c03
      · exact c04
      · exact c05
      · exact c06
    exact keepB b2 key)
  have HCS := Lib.hid hcs
  have HB2 := Lib.hid (HB1.out.trans (b2.mono (by omega)))
  have hz2 : w.heap.size < w2.heap.size := by have := b2.size; omega
  obtain ⟨n, hn⟩ : ∃ n, n = (idxK k).length := ⟨_, rfl⟩
  have hn6 : n ≤ 6 := by rw [hn]; exact idxK_len k
  have HN := Lib.hid hn
  rw [← hn] at HCS ⊢
  clear hcs b2 hb0 c00 c01 c02 c03 c04 c05 c06 hn HB1
  have HW := Lib.hid (wrd_len k)
  go_wp2
  go_loopw [3, 5, 11] (fun s _ i wr => ∃ (j : Nat) (z : ByteArray), j ≤ n ∧ i = .int .i64 j ∧ s = .string z ∧ z.size ≤ 6 + 7 * j ∧ Hid (z = TB (wrd k ++ numsT ((evN ev).take j))) ∧ Hid (∀ i, i < j → 0 ≤ gi (evN ev) i ∧ gi (evN ev) i ≤ 999999) ∧ Hid (Below w2.heap.size w2 wr)) (fun _ _ i _ => n - (intOf i).toNat)
  case atStart => exact ⟨0, TB (wrd k), Nat.zero_le _, rfl, rfl, by rw [TB_size]; have := HW.out; omega, by show _ = _; simp [numsT], fun i hi => absurd hi (by omega), Below.refl _ _⟩
  case round =>
    obtain ⟨j, z, hj, rfl, rfl, hzs, HZ, HD, HB⟩ := hrel
    by_cases hlt : j < n
    rotate_left
    · have hnj : ¬ (j : Int) < (n : Int) := by omega
      have Hyes := Lib.hid (show z = TB R by
        rw [HZ.out, HR.out]
        have hl : (evN ev).length = n := by rw [evN_len, HK.out, HN.out]
        have hall : allR 0 999999 (evN ev) = true := allR_iff.2 fun i hi => HD.out i (by omega)
        unfold fmtE
        rw [if_pos hall, HK.out, List.take_of_length_le (by omega)])
      go_wp2
      go_ret
      exact ⟨by rw [← Hyes.out]; rfl, HB2.out.trans (HB.out.mono (by omega))⟩
    obtain ⟨gb, hA, hg1, hg2, cp⟩ := HCS.out j hlt
    subst hA
    have hp7 : (idxK k).getD j 0 < 7 := idx_lt (by rw [← HN.out]; exact hlt)
    have HX := Lib.hid (show gi (evN ev) j = gi ev ((idxK k).getD j 0) by have := evN_gi (ev := ev) (j := j) (by rw [HK.out, ← HN.out]; exact hlt); rw [HK.out] at this; exact this)
    obtain ⟨p, hpe⟩ : ∃ p, p = (idxK k).getD j 0 := ⟨_, rfl⟩
    rw [← hpe] at cp hp7 HX
    have cx := (HB.out.cell (show w.heap.size < w2.heap.size by omega)).trans (HC.out p hp7)
    have cq := (HB.out.cell (show gb < w2.heap.size by omega)).trans cp
    have hx64 := HI.out p
    obtain ⟨x, hxe⟩ : ∃ x, x = gi ev p := ⟨_, rfl⟩
    rw [← hxe] at cx HX hx64
    have j0 : (0 : Int) ≤ (j : Int) := by omega
    have j1 : (j : Int) < (n : Int) := by omega
    have HNO := Lib.hid (show ¬ (0 ≤ x ∧ x ≤ 999999) → R = [] from fun hno => by
      rw [HR.out]; unfold fmtE; rw [allR_no (i := j) (by rw [evN_len, HK.out, ← HN.out]; exact hlt) (by rw [HX.out]; exact hno)]; simp)
    clear hpe hxe cp
    by_cases y1 : x < 0
    · have Hno := Lib.hid (HNO.out fun h => by omega)
      go_wp2
      go_ret
      exact ⟨by rw [Hno.out]; rfl, HB2.out.trans (HB.out.mono (by omega))⟩
    by_cases y2 : 999999 < x
    · have Hno := Lib.hid (HNO.out fun h => by omega)
      go_wp2
      go_ret
      exact ⟨by rw [Hno.out]; rfl, HB2.out.trans (HB.out.mono (by omega))⟩
    have hdl := (dec_len (n := x.toNat) (by omega)).2
    obtain ⟨D, hD⟩ : ∃ D, D = TB (Lib.decDigits x.toNat) := ⟨_, rfl⟩
    have hDs : D.size ≤ 6 := by rw [hD, TB_size]; exact hdl
    have HDD := Lib.hid hD
    obtain ⟨D2, hD2⟩ : ∃ D2, D2 = (ByteArray.mk #[32]) ++ D := ⟨_, rfl⟩
    have hD2s : D2.size ≤ 7 := by rw [hD2, ByteArray.size_append]; have : (ByteArray.mk #[32]).size = 1 := rfl; omega
    have hD2e : (ByteArray.mk #[32]) ++ D = D2 := hD2.symm
    have HD2 := Lib.hid (show D2 = TB (32 :: Lib.decDigits x.toNat) by rw [hD2, hD]; exact TB_app [32] _)
    have hsp : (ByteArray.mk #[32]).size + D.size ≤ 9223372036854775807 := by have : (ByteArray.mk #[32]).size = 1 := rfl; omega
    have hsum : z.size + D2.size ≤ 9223372036854775807 := by omega
    obtain ⟨z2, hz2e⟩ : ∃ z2, z2 = z ++ D2 := ⟨_, rfl⟩
    have hz2e' : z ++ D2 = z2 := hz2e.symm
    have hz2s : z2.size ≤ 6 + 7 * (j + 1) := by rw [hz2e, ByteArray.size_append]; omega
    have HZ2 := Lib.hid (show z2 = TB (wrd k ++ numsT ((evN ev).take (j + 1))) by
      rw [hz2e, HZ.out, HD2.out, TB_app, take_gi (by rw [evN_len, HK.out, ← HN.out]; exact hlt), numsT_snoc, HX.out, List.append_assoc])
    have HD3 := Lib.hid (show ∀ i, i < j + 1 → 0 ≤ gi (evN ev) i ∧ gi (evN ev) i ≤ 999999 from fun i hi => by
      rcases Nat.lt_or_ge i j with h' | h'
      · exact HD.out i h'
      · obtain rfl : i = j := by omega
        rw [HX.out]; omega)
    clear hD hD2 hz2e hzs hdl HNO
    go_wp2_with fail
    refine (Itoa_any B x _ ((HP.out.below HB2.out).below HB.out) (by omega) (by omega)).mono ?_
    rw [← HDD.out]
    rintro e w4 ⟨rfl, b4⟩
    have HB4 := Lib.hid (HB.out.trans (b4.mono HB.out.size))
    clear b4
    go_wp2
    go_roundw
    case rel => exact ⟨j + 1, z2, hlt, by go_num, rfl, hz2s, HZ2.out, HD3.out, HB4.out⟩
    case measure => simp [intOf]; omega
end Go.Proofs.YtkgepklapglmdaaGreatDoor

namespace Go.Proofs.YtkgepklapglmdaaGreatDoor
open Go.RowKit

/-! pieces of a text -/
/-- the pieces between the bytes c; cur: what has been read of the piece -/
def splitC (c : UInt8) (cur : List UInt8) : List UInt8 → List (List UInt8)
  | [] => [cur]
  | b :: t => if b = c then cur :: splitC c [] t else splitC c (cur ++ [b]) t
theorem splitC_ix (c : UInt8) : ∀ (l cur : List UInt8), (Lib.index l [c] = -1 ∧ splitC c cur l = [cur ++ l]) ∨ ∃ i : Nat, Lib.index l [c] = i ∧ splitC c cur l = (cur ++ l.take i) :: splitC c [] (l.drop (i + 1))
  | [], cur => by left; exact ⟨by simp [Lib.index], by simp [splitC]⟩
  | b :: t, cur => by
    by_cases h : b = c
    · subst h
      right
      exact ⟨0, by simp [Lib.index, List.isPrefixOf], by simp [splitC]⟩
    · have hp : ([c] : List UInt8).isPrefixOf (b :: t) = false := by simp [List.isPrefixOf, Ne.symm h]
      have hix : Lib.index (b :: t) [c] = if Lib.index t [c] == -1 then -1 else Lib.index t [c] + 1 := by rw [Lib.index, hp]; simp
      have hs : splitC c cur (b :: t) = splitC c (cur ++ [b]) t := by rw [splitC, if_neg h]
      rcases splitC_ix c t (cur ++ [b]) with ⟨h1, h2⟩ | ⟨i, h1, h2⟩
      · left; exact ⟨by rw [hix, h1]; rfl, by rw [hs, h2]; simp⟩
      · right
        refine ⟨i + 1, ?_, by rw [hs, h2]; simp⟩
        have : ¬ ((i : Int) == -1) = true := fun e => by have := beq_iff_eq.1 e; omega
        rw [hix, h1, if_neg this]; omega
theorem splitC_split (c : UInt8) : ∀ (n : Nat) (l : List UInt8), l.length ≤ n → Lib.splitK [c] 0 (Lib.count l [c]) l = splitC c [] l := by
  intro n
  induction n with
  | zero =>
    intro l h
    obtain rfl := List.eq_nil_of_length_eq_zero (by omega : l.length = 0)
    rw [Lib.count_miss (by simp [Lib.index])]; rfl
  | succ n ih =>
    intro l h
    rcases splitC_ix c l [] with ⟨h1, h2⟩ | ⟨i, h1, h2⟩
    · rw [Lib.count_miss h1, h2]; rfl
    · have hlt : i < l.length := by
        by_cases hi : i < l.length
        · exact hi
        · have hc := Lib.count_hit (sub := [c]) (by simp) h1
          exfalso
          have key : ∀ (l : List UInt8), Lib.index l [c] < l.length ∨ l = [] := by
            intro l
            induction l with
            | nil => exact .inr rfl
            | cons b t ih2 =>
              left
              rw [Lib.index]
              split
              · simp only [List.length_cons]; omega
              · split
                · simp only [List.length_cons]; omega
                · rcases ih2 with h | h
                  · simp only [List.length_cons]; omega
                  · subst h
                    rename_i h9
                    exact absurd (by simp [Lib.index]) h9
          rcases key l with h | h
          · omega
          · subst h; simp [Lib.index] at h1
      rw [Lib.count_hit (sub := [c]) (by simp) h1, Nat.add_comm, Lib.splitK, h1]
      have : ¬ ((i : Int) == -1) = true := fun e => by have := beq_iff_eq.1 e; omega
      rw [if_neg this, h2]
      have e1 : (i : Int).toNat = i := by omega
      simp only [e1, Nat.add_zero, List.nil_append, List.length_singleton]
      rw [ih (l.drop (i + 1)) (by rw [List.length_drop]; omega)]
theorem splitB_C (c : UInt8) (l : List UInt8) : (Lib.splitB (TB [c]) 0 (Lib.countB (TB l) (TB [c])) (TB l)).map Value.string = (splitC c [] l).map fun x => Value.string (TB x) := by
  have h := Lib.splitB_data (TB [c]) 0 (Lib.countB (TB l) (TB [c])) (TB l)
  have e : Lib.countB (TB l) (TB [c]) = Lib.count l [c] := rfl
  have h2 : (Lib.splitB (TB [c]) 0 (Lib.countB (TB l) (TB [c])) (TB l)).map (·.data.toList) = splitC c [] l := by
    rw [h, e]; exact splitC_split c l.length l (Nat.le_refl _)
  rw [← h2, List.map_map]
  rfl
theorem splitC_len (c : UInt8) : ∀ (l cur : List UInt8), (splitC c cur l).length = l.count c + 1
  | [], cur => rfl
  | b :: t, cur => by
    rw [splitC]
    split
    · rename_i h; subst h; rw [List.length_cons, splitC_len, List.count_cons_self]
    · rename_i h; rw [splitC_len, List.count_cons_of_ne (by simpa using h)]
theorem countB_C (c : UInt8) (l : List UInt8) : Lib.countB (TB l) (TB [c]) + 1 = (splitC c [] l).length := by
  rw [splitC_len]
  have e : Lib.countB (TB l) (TB [c]) = Lib.count l [c] := rfl
  rw [e, Lib.count_one]
theorem splitC_mem (c : UInt8) : ∀ (l cur x : List UInt8), x ∈ splitC c cur l → x.length ≤ cur.length + l.length
  | [], cur, x, h => by rw [splitC, List.mem_singleton] at h; subst h; omega
  | b :: t, cur, x, h => by
    rw [splitC] at h
    split at h
    · rcases List.mem_cons.1 h with rfl | h
      · omega
      · have := splitC_mem c t [] x h
        simp only [List.length_nil, List.length_cons] at this ⊢; omega
    · have := splitC_mem c t _ x h
      simp only [List.length_append, List.length_cons, List.length_nil] at this ⊢; omega

/-! numbers of a text -/
def dgt (b : UInt8) : Bool := decide (48 ≤ b.toNat) && decide (b.toNat ≤ 57)
theorem dgt_iff {b : UInt8} : dgt b = true ↔ 48 ≤ b.toNat ∧ b.toNat ≤ 57 := by unfold dgt; rw [Bool.and_eq_true, decide_eq_true_eq, decide_eq_true_eq]
def valD (n : Int) : List UInt8 → Int
  | [] => n
  | b :: t => valD (10 * n + ((b.toNat : Int) - 48)) t
theorem valD_snoc (b : UInt8) : ∀ (s : List UInt8) (n : Int), valD n (s ++ [b]) = 10 * valD n s + ((b.toNat : Int) - 48)
  | [], n => rfl
  | x :: t, n => by
    show valD (10 * n + _) (t ++ [b]) = 10 * valD (10 * n + _) t + _
    rw [valD_snoc b t]
/-- a number of at most six digits without leading zeros; -1 else -/
def nmL (s : List UInt8) : Int := if 1 ≤ s.length ∧ s.length ≤ 6 ∧ ¬ (1 < s.length ∧ s.headD 0 = 48) ∧ s.all dgt = true then valD 0 s else -1
/-- the reference's reading -/
def rdN : Int → List UInt8 → Int
  | n, [] => n
  | n, b :: t => if dgt b = false ∨ 99999 < n then -1 else rdN (10 * n + ((b.toNat : Int) - 48)) t
theorem valD_nn : ∀ (s : List UInt8) (n : Int), s.all dgt = true → 0 ≤ n → 0 ≤ valD n s
  | [], n, _, h => h
  | b :: t, n, h, h0 => by
    rw [List.all_cons, Bool.and_eq_true] at h
    have := dgt_iff.1 h.1
    exact valD_nn t _ h.2 (by omega)
theorem rdN_small : ∀ (s : List UInt8) (n : Int) (k : Nat), s.all dgt = true → 0 ≤ n → n < 10 ^ k → k + s.length ≤ 6 → rdN n s = valD n s
  | [], _, _, _, _, _, _ => rfl
  | b :: t, n, k, h, h0, h1, h2 => by
    rw [List.all_cons, Bool.and_eq_true] at h
    have h3 := dgt_iff.1 h.1
    rw [List.length_cons] at h2
    have h4 : (10 : Int) ^ k ≤ 10 ^ 5 := by
      have : (10 : Nat) ^ k ≤ 10 ^ 5 := Nat.pow_le_pow_right (by omega) (by omega)
      exact_mod_cast this
    rw [rdN, if_neg (by rw [h.1]; simp; omega), valD]
    exact rdN_small t _ (k + 1) h.2 (by omega) (by rw [Int.pow_succ]; omega) (by omega)
theorem rdN_big : ∀ (s : List UInt8) (n : Int), 0 ≤ n → n ≤ 999999 → 0 ≤ rdN n s → s.all dgt = true ∧ rdN n s = valD n s ∧ rdN n s ≤ 999999
  | [], n, h0, h1, _ => ⟨rfl, rfl, h1⟩
  | b :: t, n, h0, h1, h => by
    rw [rdN] at h ⊢
    by_cases hc : dgt b = false ∨ 99999 < n
    · rw [if_pos hc] at h; omega
    · rw [if_neg hc] at h ⊢
      have hb : dgt b = true := by
        cases e : dgt b
        · exact absurd (.inl e) hc
        · rfl
      have h3 := dgt_iff.1 hb
      have h4 : ¬ 99999 < n := fun e => hc (.inr e)
      obtain ⟨a1, a2, a3⟩ := rdN_big t _ (by omega) (by omega) h
      exact ⟨by rw [List.all_cons, hb, a1]; rfl, a2, a3⟩
theorem rdN_rng (s : List UInt8) : -1 ≤ rdN 0 s ∧ rdN 0 s ≤ 999999 := by
  have h1 : ∀ (s : List UInt8) (n : Int), 0 ≤ n → -1 ≤ rdN n s := by
    intro s
    induction s with
    | nil => intro n h; show -1 ≤ n; omega
    | cons b t ih =>
      intro n h
      rw [rdN]
      split
      · omega
      · rename_i hc
        have hb : dgt b = true := by
          cases e : dgt b
          · exact absurd (.inl e) hc
          · rfl
        have h3 := dgt_iff.1 hb
        exact ih _ (by omega)
  refine ⟨h1 s 0 (by omega), ?_⟩
  rcases Int.lt_or_le (rdN 0 s) 0 with h | h
  · omega
  · exact (rdN_big s 0 (by omega) (by omega) h).2.2
theorem u8_ofNat {n : Nat} (h : n < 10) : (UInt8.ofNat (48 + n)).toNat = 48 + n := by
  rw [UInt8.toNat_ofNat']; omega
theorem dec_of : ∀ (m : Nat) (s : List UInt8), s.length ≤ m → 1 ≤ s.length → ¬ (1 < s.length ∧ s.headD 0 = 48) → s.all dgt = true → Lib.decDigits (valD 0 s).toNat = s := by
  intro m
  induction m with
  | zero => intro s h1 h2; omega
  | succ m ih =>
    intro s h1 h2 h3 h4
    rcases List.eq_nil_or_concat s with rfl | ⟨t, b, rfl⟩
    · simp at h2
    rw [List.concat_eq_append] at h1 h2 h3 h4 ⊢
    rw [List.all_append, Bool.and_eq_true] at h4
    have hb : dgt b = true := by simpa using h4.2
    have hd := dgt_iff.1 hb
    rw [valD_snoc]
    have ub : UInt8.ofNat (48 + (b.toNat - 48)) = b := by
      rw [show 48 + (b.toNat - 48) = b.toNat by omega]; simp
    cases ht : t with
    | nil =>
      have e : (10 * valD 0 [] + ((b.toNat : Int) - 48)).toNat = b.toNat - 48 := by show (10 * 0 + _ : Int).toNat = _; omega
      rw [e, Lib.decDigits_one (by omega), ub]; rfl
    | cons x r =>
      subst ht
      have hx : ¬ (x = 48) := fun e => h3 ⟨by simp, by simp [e]⟩
      have hv := ih (x :: r) (by simp at h1 ⊢; omega) (by simp) (fun e => hx (by simpa using e.2)) h4.1
      have hnn := valD_nn (x :: r) 0 h4.1 (by omega)
      obtain ⟨V, hV⟩ := Int.eq_ofNat_of_zero_le hnn
      have hpos : 1 ≤ V := by
        rcases Nat.eq_zero_or_pos V with h0 | h0
        · rw [hV, h0] at hv
          have : Lib.decDigits (((0 : Nat) : Int).toNat) = [48] := by rw [show ((0 : Nat) : Int).toNat = 0 by rfl, Lib.decDigits_one (by omega)]; rfl
          rw [this] at hv
          injection hv with a _
          exact absurd a.symm hx
        · exact h0
      have e : (10 * valD 0 (x :: r) + ((b.toNat : Int) - 48)).toNat = 10 * V + (b.toNat - 48) := by rw [hV]; omega
      rw [e, Lib.decDigits, dif_neg (by omega), show (10 * V + (b.toNat - 48)) / 10 = V by omega, show (10 * V + (b.toNat - 48)) % 10 = b.toNat - 48 by omega, ub]
      have : Lib.decDigits V = x :: r := by rw [hV] at hv; simpa using hv
      rw [this]
theorem dec_ok : ∀ (n : Nat), (Lib.decDigits n).all dgt = true ∧ 1 ≤ (Lib.decDigits n).length ∧ ¬ (1 < (Lib.decDigits n).length ∧ (Lib.decDigits n).headD 0 = 48) ∧ (valD 0 (Lib.decDigits n) = n) ∧ (1 ≤ n → (Lib.decDigits n).headD 0 ≠ 48) := by
  intro n
  induction n using Nat.strongRecOn with
  | ind n ih =>
    by_cases h : n < 10
    · rw [Lib.decDigits_one h]
      have := u8_ofNat h
      refine ⟨?_, by simp, by simp, ?_, fun h1 e => ?_⟩
      · simp only [List.all_cons, List.all_nil, Bool.and_true]; exact dgt_iff.2 (by omega)
      · show 10 * 0 + (((UInt8.ofNat (48 + n)).toNat : Int) - 48) = n
        omega
      · have e2 : UInt8.ofNat (48 + n) = 48 := e
        rw [e2] at this
        have e3 : (48 : UInt8).toNat = 48 := rfl
        omega
    · obtain ⟨a1, a2, a3, a4, a5⟩ := ih (n / 10) (by omega)
      have hu := u8_ofNat (n := n % 10) (by omega)
      rw [Lib.decDigits, dif_neg h]
      have hh : (Lib.decDigits (n / 10) ++ [UInt8.ofNat (48 + n % 10)]).headD 0 = (Lib.decDigits (n / 10)).headD 0 := by
        cases hc : Lib.decDigits (n / 10) with
        | nil => rw [hc] at a2; simp at a2
        | cons x r => rfl
      refine ⟨?_, by simp, fun e => a5 (by omega) (by rw [← hh]; exact e.2), ?_, fun _ => by rw [hh]; exact a5 (by omega)⟩
      · rw [List.all_append, a1]
        simp only [List.all_cons, List.all_nil, Bool.and_true, Bool.true_and]; exact dgt_iff.2 (by omega)
      · rw [valD_snoc, a4, hu]; omega
/-- both readings are the same -/
theorem rd_nm (s : List UInt8) : nmL s = if rdN 0 s < 0 ∨ s = [] ∨ s ≠ Lib.decDigits (rdN 0 s).toNat then -1 else rdN 0 s := by
  by_cases hc : 1 ≤ s.length ∧ s.length ≤ 6 ∧ ¬ (1 < s.length ∧ s.headD 0 = 48) ∧ s.all dgt = true
  · obtain ⟨h1, h2, h3, h4⟩ := hc
    have e1 := rdN_small s 0 0 h4 (by omega) (by simp) (by omega)
    have e2 := dec_of s.length s (Nat.le_refl _) h1 h3 h4
    have e3 := valD_nn s 0 h4 (by omega)
    unfold nmL
    rw [if_pos ⟨h1, h2, h3, h4⟩, e1, if_neg]
    rintro (h | h | h)
    · omega
    · subst h; simp at h1
    · exact h e2.symm
  · unfold nmL
    rw [if_neg hc]
    by_cases h : rdN 0 s < 0 ∨ s = [] ∨ s ≠ Lib.decDigits (rdN 0 s).toNat
    · rw [if_pos h]
    · exfalso
      have h1 : ¬ rdN 0 s < 0 := fun e => h (.inl e)
      have h3 : s = Lib.decDigits (rdN 0 s).toNat := Classical.byContradiction fun e => h (.inr (.inr e))
      have h4 := rdN_rng s
      obtain ⟨a1, a2, a3, a4, a5⟩ := dec_ok (rdN 0 s).toNat
      have h6 := (dec_len (n := (rdN 0 s).toNat) (by omega)).2
      rw [← h3] at a1 a2 a3 h6
      exact hc ⟨a2, h6, a3, a1⟩
theorem nmL_rng (s : List UInt8) : -1 ≤ nmL s ∧ nmL s ≤ 999999 := by
  rw [rd_nm]
  have := rdN_rng s
  split <;> omega

/-! events of a text -/
/-- an event with k numbers of a text -/
def evS (k : Int) (ns : List Int) : Nat → List Int
  | 0 => [k, 0, 0, 0, 0, 0, 0]
  | j + 1 => (evS k ns j).set ((idxK k).getD j 0) (gi ns j)
theorem evS_len (k : Int) (ns : List Int) : ∀ j, (evS k ns j).length = 7
  | 0 => rfl
  | j + 1 => by rw [evS, List.length_set]; exact evS_len k ns j
/-- the kind of a text of a word and so many numbers -/
def kndT (w0 : List UInt8) (n : Nat) : Option Int := if w0 = wrd 0 ∧ n = 3 then some 0 else if w0 = wrd 1 ∧ n = 6 then some 1 else if w0 = wrd 2 ∧ n = 5 then some 2 else if w0 = wrd 3 ∧ n = 2 then some 3 else none
def badN (xs : List (List UInt8)) : Bool := xs.any fun x => decide (nmL x < 0)
/-- the numbers of the event of a text -/
def parE (l : List UInt8) : Option (List Int) :=
  match splitC 32 [] l with
  | [] => none
  | w0 :: xs => if badN xs = true then none else match kndT w0 xs.length with
    | none => none
    | some k => some (evS k (xs.map nmL) (xs.map nmL).length)
theorem splitC_ne (c : UInt8) (l cur : List UInt8) : splitC c cur l ≠ [] := fun e => by
  have := splitC_len c l cur
  rw [e] at this; simp at this
end Go.Proofs.YtkgepklapglmdaaGreatDoor

namespace Go.Proofs.YtkgepklapglmdaaGreatDoor
open Go.RowKit
attribute [local go_sem ↓] Go.wp_at_zero Go.wp_at_succ

/-! lists of texts in memory -/
def gs (xs : List (List UInt8)) (k : Nat) : List UInt8 := xs.getD k []
def sV (xs : List (List UInt8)) : List Value := xs.map fun x => Value.string (TB x)
def Strs (w : World) (lo hi : Nat) (v : Value) (xs : List (List UInt8)) : Prop :=
  ∃ A c, v = .slice A xs.length c ∧ xs.length ≤ c ∧ c ≤ maxLen ∧ Rd w lo hi 1 A xs.length (sV xs)
def OwnS (w : World) (base e : Nat) (v : Value) (xs : List (List UInt8)) : Prop := w.ownsRow base e 1 v xs.length (sV xs)
theorem gs_eq {xs : List (List UInt8)} {k : Nat} (h : k < xs.length) : gs xs k = xs[k] := by simp [gs, h]
theorem Strs.kept {w w' : World} {lo hi : Nat} {v : Value} {xs : List (List UInt8)} (h : Strs w lo hi v xs) (hk : Kept lo hi w w') : Strs w' lo hi v xs := by
  obtain ⟨A, c, h1, h2, h3, h4⟩ := h
  exact ⟨A, c, h1, h2, h3, h4.kept hk⟩
theorem Strs.below {w w' : World} {B lo hi : Nat} {v : Value} {xs : List (List UInt8)} (h : Strs w lo hi v xs) (hb : Below B w w') (hh : hi ≤ B) : Strs w' lo hi v xs := h.kept (.of_below hb hh)
theorem Strs.form {w : World} {lo hi : Nat} {v : Value} {xs : List (List UInt8)} (h : Strs w lo hi v xs) : ∃ A c, v = .slice A xs.length c ∧ xs.length ≤ c ∧ c ≤ 2 ^ 63 - 1 := by
  obtain ⟨A, c, h1, h2, h3, _⟩ := h
  exact ⟨A, c, h1, h2, by unfold maxLen at h3; omega⟩
theorem Strs.cell {w : World} {lo hi n c : Nat} {A : Option Addr} {xs : List (List UInt8)} (h : Strs w lo hi (.slice A n c) xs) {k : Nat} (hk : k < xs.length) :
    ∃ b o, A = some ⟨b, o, none⟩ ∧ lo ≤ b ∧ b < hi ∧ w.cell? ⟨b, o + k, none⟩ = some (.string (TB (gs xs k))) := by
  obtain ⟨A', c', e, _, _, hr⟩ := h
  obtain ⟨rfl, _, _⟩ : A = A' ∧ n = xs.length ∧ c = c' := by simpa using e
  obtain ⟨b, o, e1, h1, h2, h3⟩ := hr.2 (by omega)
  refine ⟨b, o, e1, h1, h2, h3 k _ ?_⟩
  simp [gs, sV, hk]
theorem Strs.cell' {w : World} {lo hi n c b o : Nat} {xs : List (List UInt8)} (h : Strs w lo hi (.slice (some ⟨b, o, none⟩) n c) xs) {k : Nat} (hk : k < xs.length) :
    w.cell? ⟨b, o + k, none⟩ = some (.string (TB (gs xs k))) := by
  obtain ⟨b', o', e, _, _, hc⟩ := h.cell hk
  simp only [Option.some.injEq, Addr.mk.injEq, and_true] at e
  obtain ⟨rfl, rfl⟩ := e
  exact hc
theorem OwnS.strs {w : World} {base e : Nat} {v : Value} {xs : List (List UInt8)} (h : OwnS w base e v xs) : Strs w base w.heap.size v xs := by
  obtain ⟨hl, hv⟩ := h
  rcases hv with ⟨rfl, hn⟩ | ⟨g, cap, cur, rfl, hb, hg, hc, hm, hs, ht⟩
  · have : xs = [] := List.eq_nil_of_length_eq_zero hn
    subst this
    exact ⟨none, 0, rfl, by simp, by simp [maxLen], ⟨by simp [sV], fun h => absurd h (by simp)⟩⟩
  · refine ⟨some ⟨g, 0, none⟩, cap, rfl, hc, hm, ⟨by simp [sV], fun _ => ⟨g, 0, rfl, hb, (Array.getElem?_eq_some_iff.1 hg).1, fun j u hu => ?_⟩⟩⟩
    rw [Nat.zero_add, cell_of_row w g j cur e (0, 0) hg, ← Array.getElem?_toList]
    rw [← ht, List.getElem?_take] at hu
    split at hu
    · exact hu
    · cases hu
theorem OwnS.empty (w : World) (base e : Nat) (hb : base ≤ w.heap.size) : OwnS (w.alloc (.cells #[] e)) base e (.slice (some ⟨w.heap.size, 0, none⟩) 0 0) [] :=
  World.ownsRow_made w #[] 0 hb (by simp [maxLen]) (by simp)
theorem OwnS.lt {w : World} {base e : Nat} {v : Value} {xs : List (List UInt8)} (h : OwnS w base e v xs) : ∀ g, v.ownBlock = some g → base ≤ g ∧ g < w.heap.size := World.ownsRow.lt h
theorem OwnS.form {w : World} {base e : Nat} {v : Value} {xs : List (List UInt8)} (h : OwnS w base e v xs) : ∃ A c, v = .slice A xs.length c ∧ xs.length ≤ c ∧ c ≤ 2 ^ 63 - 1 := h.strs.form
theorem OwnS.keptBlock {w w' : World} {base e : Nat} {v : Value} {xs : List (List UInt8)} (h : OwnS w base e v xs) (hk : ∀ g, v.ownBlock = some g → w'.heap[g]? = w.heap[g]?) : OwnS w' base e v xs := ownsRow_keptBlock h hk
theorem OwnS.kept {w w' : World} {base e : Nat} {v : Value} {xs : List (List UInt8)} (h : OwnS w base e v xs) (hk : Kept base w.heap.size w w') : OwnS w' base e v xs :=
  h.keptBlock fun g hg => hk g (h.lt g hg).1 (h.lt g hg).2
theorem OwnS.base {w : World} {base base' e : Nat} {v : Value} {xs : List (List UInt8)} (h : OwnS w base e v xs) (hb : base' ≤ base) : OwnS w base' e v xs := ownsRow_base h hb
/-- memory that only grows keeps the world's shape -/
theorem shaped_below {P : Program} {w w' : World} (h : w.ShapedOpen P) (b : Below w.heap.size w w') : w'.ShapedOpen P := by
  have lt_of_some : ∀ {i : Nat} {o : Obj}, w.heap[i]? = some o → i < w.heap.size := fun {i o} ho => (Array.getElem?_eq_some_iff.1 ho).1
  have hshape : ∀ r x, w.shape? r = some x → w'.shape? r = some x := fun r x hx => by
    unfold World.shape? at hx ⊢
    cases hr : w.heap[r]? with
    | none => rw [hr] at hx; cases hx
    | some o => rw [b.block r (lt_of_some hr)]; exact hx
  refine ⟨fun g zero t hg hz => ?_, fun k hk1 hk2 => ?_⟩
  · obtain ⟨cs, h1, h2, h3⟩ := h.1 g zero t hg hz
    exact ⟨cs, (b.block g (lt_of_some h1)).trans h1, h2, fun hb => Row.ok_of_shape (fun r x hx => hshape r x hx) (h3 hb)⟩
  · obtain ⟨o, o₀, h1, h2, h3⟩ := h.2 k hk1 hk2
    exact ⟨o, o₀, (b.block k (lt_of_some h1)).trans h1, h2, h3⟩
/-- what strings.Split laid -/
theorem strs_made (w : World) (e : Nat) (xs : List (List UInt8)) (cs : Array Value) (hcs : cs.toList = sV xs) (hl : xs.length ≤ maxLen) (n : Nat) (hn : n = xs.length) : Strs (w.alloc (.cells cs e)) w.heap.size (w.heap.size + 1) (.slice (some ⟨w.heap.size, 0, none⟩) n n) xs := by
  subst hn
  refine ⟨_, _, rfl, Nat.le_refl _, hl, by simp [sV], fun _ => ⟨w.heap.size, 0, rfl, Nat.le_refl _, by omega, fun j u hu => ?_⟩⟩
  rw [Nat.zero_add, cell_of_row _ w.heap.size j cs e (0, 0) (heap_alloc_new w _), ← Array.getElem?_toList, hcs]
  exact hu
/-- strings.Split at a byte -/
theorem Split_any (c : UInt8) (l : List UInt8) (sep : ByteArray) (hsep : sep = TB [c]) (s : ByteArray) (hs : s = TB l) (w : World) (h : w.ShapedOpen Tryz.prog) (hl : l.length < 4294967281) :
    Calls Tryz.prog 77 #[.string s, .string sep] w fun e w' => ∃ v, e = .returned v ∧ Strs w' w.heap.size w'.heap.size v (splitC c [] l) ∧ Below w.heap.size w w' := by
  subst hsep hs
  refine (Tryz.strings_Split_shaped (TB l) (TB [c]) w h (by rw [TB_size]; exact hl) (by rw [TB_size]; exact Nat.le_refl _)).mono ?_
  rintro e w' ⟨rfl, rfl⟩
  have hlen := splitC_len c l []
  have hcl : l.count c ≤ l.length := List.count_le_length
  refine ⟨_, rfl, ?_, (Below.refl _ _).alloc (Nat.le_refl _) _⟩
  have hz : (w.alloc (.cells ((Lib.splitB (TB [c]) 0 (Lib.countB (TB l) (TB [c])) (TB l)).map Value.string).toArray 9)).heap.size = w.heap.size + 1 := by simp
  have := strs_made w 9 (splitC c [] l) ((Lib.splitB (TB [c]) 0 (Lib.countB (TB l) (TB [c])) (TB l)).map Value.string).toArray (by rw [List.toList_toArray]; exact splitB_C c l) (by unfold maxLen; omega) (Lib.countB (TB l) (TB [c]) + 1) (countB_C c l)
  rw [← hz] at this
  exact this
end Go.Proofs.YtkgepklapglmdaaGreatDoor

namespace Go.Proofs.YtkgepklapglmdaaGreatDoor
open Go.RowKit
attribute [local go_sem ↓] Go.wp_at_zero Go.wp_at_succ

/-! bytes of texts -/
def gb (l : List UInt8) (j : Nat) : Int := ((l.getD j 0).toNat : Int)
theorem gb_rng (l : List UInt8) (j : Nat) : 0 ≤ gb l j ∧ gb l j ≤ 255 := by
  unfold gb
  have := (l.getD j 0).toNat_lt
  omega
theorem gb_eq {l : List UInt8} {j : Nat} (h : j < l.length) : gb l j = (l[j].toNat : Int) := by unfold gb; rw [List.getD_eq_getElem?_getD, List.getElem?_eq_getElem h]; rfl
theorem idx_run (l : List UInt8) (s : ByteArray) (hs : s = TB l) (j : Nat) (hj : j < l.length) (w : World) : (Instr.index 9 (.string s) (.int .i64 (j : Int))).run Tryz.prog w = .ok (.int .u8 (gb l j)) w := by
  subst hs
  rw [run_index_string w 9 (TB l) .i64 j Tryz.underlying9, dif_pos ⟨by omega, by rw [TB_size]; omega⟩, gb_eq hj]
  congr 2
theorem valD_lt : ∀ (s : List UInt8) (n : Int) (k : Nat), s.all dgt = true → 0 ≤ n → n < 10 ^ k → valD n s < 10 ^ (k + s.length)
  | [], n, k, _, _, h => h
  | b :: t, n, k, h, h0, h1 => by
    rw [List.all_cons, Bool.and_eq_true] at h
    have hb := dgt_iff.1 h.1
    have := valD_lt t (10 * n + ((b.toNat : Int) - 48)) (k + 1) h.2 (by omega) (by rw [Int.pow_succ]; omega)
    rw [List.length_cons, show k + (t.length + 1) = k + 1 + t.length by omega]
    exact this
theorem take_b {l : List UInt8} {j : Nat} (h : j < l.length) : l.take (j + 1) = l.take j ++ [l[j]] := List.take_succ_eq_append_getElem h
theorem dgt_gb {l : List UInt8} {j : Nat} (h : j < l.length) : dgt l[j] = true ↔ 48 ≤ gb l j ∧ gb l j ≤ 57 := by rw [dgt_iff, gb_eq h]; omega
theorem nmL_no {l : List UInt8} (h : ¬ (1 ≤ l.length ∧ l.length ≤ 6 ∧ ¬ (1 < l.length ∧ l.headD 0 = 48) ∧ l.all dgt = true)) : nmL l = -1 := by unfold nmL; rw [if_neg h]
theorem nmL_yes {l : List UInt8} (h : 1 ≤ l.length ∧ l.length ≤ 6 ∧ ¬ (1 < l.length ∧ l.headD 0 = 48) ∧ l.all dgt = true) : nmL l = valD 0 l := by unfold nmL; rw [if_pos h]
theorem head_gb {l : List UInt8} (h : 0 < l.length) : l.headD 0 = 48 ↔ gb l 0 = 48 := by
  cases l with
  | nil => exact absurd h (by simp)
  | cons b t =>
    show b = 48 ↔ ((b.toNat : Int)) = 48
    constructor
    · rintro rfl; rfl
    · intro e; exact UInt8.toNat_inj.1 (by show b.toNat = 48; omega)
def NmPost (l : List UInt8) (w : World) (e : Ending) (w' : World) : Prop := w = w' ∧ ((nmL l < 0 ∧ e = .returned (.tuple #[.int .i64 0, .bool false])) ∨ (0 ≤ nmL l ∧ e = .returned (.tuple #[.int .i64 (nmL l), .bool true])))
set_option maxRecDepth 100000 in
set_option maxHeartbeats 2000000 in
theorem parseNumber_any (l : List UInt8) (s : ByteArray) (hs : s = TB l) (w : World) (hl : l.length ≤ 4294967296) :
    Calls Tryz.prog 80 #[.string s] w fun e w' => NmPost l w e w' := by
  have hsz : s.size = l.length := by rw [hs, TB_size]
  have HS := Lib.hid hs
  have HZ := Lib.hid hsz
  obtain ⟨n, hn⟩ : ∃ n, n = s.size := ⟨_, rfl⟩
  have hsn : s.size = n := hn.symm
  have hnl : n ≤ l.length := by omega
  have hnl2 : l.length ≤ n := by omega
  clear hs hsz hn
  by_cases h1 : n < 1
  · have y1 : (n : Int) < 1 := by omega
    have HN := Lib.hid (show nmL l < 0 by rw [nmL_no (fun h => by omega)]; omega)
    go_enter Tryz.func80, Tryz.ntmps80
    go_wp2
    go_ret2
    exact ⟨rfl, .inl ⟨HN.out, rfl⟩⟩
  have y1 : ¬ (n : Int) < 1 := by omega
  by_cases h6 : 6 < n
  · have y2 : (6 : Int) < (n : Int) := by omega
    have HN := Lib.hid (show nmL l < 0 by rw [nmL_no (fun h => by omega)]; omega)
    go_enter Tryz.func80, Tryz.ntmps80
    go_wp2
    go_ret2
    exact ⟨rfl, .inl ⟨HN.out, rfl⟩⟩
  have y2 : ¬ (6 : Int) < (n : Int) := by omega
  have hix0 : ∀ w : World, (Instr.index 9 (.string s) (.int .i64 0)).run Tryz.prog w = .ok (.int .u8 (gb l 0)) w := fun w => idx_run l s HS.out 0 (by omega) w
  obtain ⟨b0, hb0⟩ : ∃ b, b = gb l 0 := ⟨_, rfl⟩
  have HB0 := Lib.hid hb0
  rw [← hb0] at hix0
  clear hb0
  by_cases h0 : 1 < n ∧ b0 = 48
  · have y3 : (1 : Int) < (n : Int) := by omega
    have y4 : (b0 == 48) = true := beq_t h0.2
    have HN := Lib.hid (show nmL l < 0 by rw [nmL_no (fun h => h.2.2.1 ⟨by omega, (head_gb (by omega)).2 (by rw [← HB0.out]; exact h0.2)⟩)]; omega)
    clear h0
    go_enter Tryz.func80, Tryz.ntmps80
    go_wp2
    go_ret2
    exact ⟨rfl, .inl ⟨HN.out, rfl⟩⟩
  have HOK := Lib.hid (show l.all dgt = true → nmL l = valD 0 l from fun h => nmL_yes ⟨by omega, by omega, fun h9 => h0 ⟨by omega, by rw [HB0.out]; exact (head_gb (by omega)).1 h9.2⟩, h⟩)
  have hcond : ((1 : Int) < (n : Int) ∧ (b0 == 48) = false) ∨ ¬ (1 : Int) < (n : Int) := by
    by_cases h9 : 1 < n
    · exact .inl ⟨by omega, beq_f fun e => h0 ⟨h9, e⟩⟩
    · exact .inr (by omega)
  clear h0
  have key : ∀ W : World, W = w → Calls Tryz.prog 80 #[.string s] W fun e w' => NmPost l w e w' := by
    intro W hWw
    subst hWw
    rcases hcond with ⟨y3, y4⟩ | y3
    all_goals
      go_enter Tryz.func80, Tryz.ntmps80
      go_wp2
      clear hix0
      go_loop [4, 5, 26] (fun nv _ i => ∃ j : Nat, j ≤ n ∧ i = .int .i64 j ∧ nv = .int .i64 (valD 0 (l.take j)) ∧ Hid ((l.take j).all dgt = true)) (fun _ _ i => n - (intOf i).toNat)
      case atStart => exact ⟨0, Nat.zero_le _, rfl, rfl, rfl⟩
      case round =>
        obtain ⟨j, hj, rfl, rfl, HD⟩ := hrel
        by_cases hlt : j < n
        rotate_left
        · have hnj : ¬ (j : Int) < (n : Int) := by omega
          have HE := Lib.hid (show nmL l = valD 0 (l.take j) by
            have e : l.take j = l := List.take_of_length_le (by omega)
            have h9 := HD.out
            rw [e] at h9 ⊢
            exact HOK.out h9)
          have HN := Lib.hid (valD_nn (l.take j) 0 HD.out (Int.le_refl _))
          go_wp2
          go_ret2
          exact ⟨rfl, .inr ⟨by rw [HE.out]; exact HN.out, by rw [HE.out]; rfl⟩⟩
        have hjl : j < l.length := by omega
        have j0 : (0 : Int) ≤ (j : Int) := by omega
        have j1 : (j : Int) < (n : Int) := by omega
        have hix : ∀ w : World, (Instr.index 9 (.string s) (.int .i64 (j : Int))).run Tryz.prog w = .ok (.int .u8 (gb l j)) w := fun w => idx_run l s HS.out j hjl w
        have hbr := gb_rng l j
        have HDG := Lib.hid (dgt_gb hjl)
        have HNO := Lib.hid (show ¬ (48 ≤ gb l j ∧ gb l j ≤ 57) → nmL l < 0 from fun hno => by
          rw [nmL_no (fun h => hno ((dgt_gb hjl).1 (List.all_eq_true.1 h.2.2.2 _ (List.getElem_mem hjl))))]; omega)
        have HV := Lib.hid (show valD 0 (l.take (j + 1)) = 10 * valD 0 (l.take j) + (gb l j - 48) by rw [take_b hjl, valD_snoc, gb_eq hjl])
        have hv0 := valD_nn (l.take j) 0 HD.out (Int.le_refl _)
        have hv1 : valD 0 (l.take j) < 1000000 := by
          have h9 := valD_lt (l.take j) 0 0 HD.out (Int.le_refl _) (by omega)
          rw [List.length_take] at h9
          have h8 : (10 : Int) ^ (0 + min j l.length) ≤ 1000000 := (by decide : ∀ m : Fin 7, (10 : Int) ^ (m : Nat) ≤ 1000000) ⟨0 + min j l.length, by omega⟩
          omega
        have HD2 := Lib.hid (show 48 ≤ gb l j ∧ gb l j ≤ 57 → (l.take (j + 1)).all dgt = true from fun h9 => by
          rw [take_b hjl, List.all_append, HD.out]
          simp only [List.all_cons, List.all_nil, Bool.and_true, Bool.true_and]
          exact HDG.out.2 h9)
        obtain ⟨b, hb⟩ : ∃ b, b = gb l j := ⟨_, rfl⟩
        rw [← hb] at hix hbr HNO HV HD2
        obtain ⟨v, hv⟩ : ∃ v, v = valD 0 (l.take j) := ⟨_, rfl⟩
        rw [← hv] at HV hv0 hv1 ⊢
        clear hb hv HDG
        by_cases z1 : b < 48
        · have HN := Lib.hid (HNO.out fun h => by omega)
          clear HNO HD2 HV
          go_wp2
          go_ret2
          exact ⟨rfl, .inl ⟨HN.out, rfl⟩⟩
        by_cases z2 : 57 < b
        · have HN := Lib.hid (HNO.out fun h => by omega)
          clear HNO HD2 HV
          go_wp2
          go_ret2
          exact ⟨rfl, .inl ⟨HN.out, rfl⟩⟩
        have HD3 := Lib.hid (HD2.out ⟨by omega, by omega⟩)
        have g8 : IntKind.u8.wrap (b - 48) = b - 48 := IntWalk.u8_in _ (by omega)
        have g9 : IntKind.i64.wrap (b - 48) = b - 48 := IntWalk.i64_in _ (by omega)
        have ga : IntKind.i64.wrap (10 * v) = 10 * v := IntWalk.i64_in _ (by omega)
        have gc : IntKind.i64.wrap (10 * v + (b - 48)) = 10 * v + (b - 48) := IntWalk.i64_in _ (by omega)
        clear HNO HD2
        go_wp2
        go_round
        case rel => exact ⟨j + 1, hlt, by go_num, by rw [HV.out], HD3.out⟩
        case measure => simp [intOf]; omega
  exact key w rfl
theorem TB_toList (l : List UInt8) : (TB l).toList = l := ByteArray.toList_mk l
end Go.Proofs.YtkgepklapglmdaaGreatDoor

namespace Go.Proofs.YtkgepklapglmdaaGreatDoor
open Go.RowKit
attribute [local go_sem ↓] Go.wp_at_zero Go.wp_at_succ

end Go.Proofs.YtkgepklapglmdaaGreatDoor

namespace Go.Proofs.YtkgepklapglmdaaGreatDoor
open Go.RowKit
attribute [local go_sem ↓] Go.wp_at_zero Go.wp_at_succ

end Go.Proofs.YtkgepklapglmdaaGreatDoor

namespace Go.Proofs.YtkgepklapglmdaaGreatDoor
open Go.RowKit

/-! texts of events: written and read back -/
theorem split_join (c : UInt8) : ∀ (xs : List (List UInt8)) (h cur : List UInt8), (∀ b ∈ h, b ≠ c) → (∀ x ∈ xs, ∀ b ∈ x, b ≠ c) → splitC c cur (h ++ xs.flatMap (fun x => c :: x)) = (cur ++ h) :: xs
  | [], [], cur, _, _ => by simp [splitC]
  | x :: t, [], cur, _, hx => by
    simp only [List.nil_append, List.flatMap_cons, List.cons_append, List.append_nil]
    rw [splitC, if_pos rfl, split_join c t x [] (hx x List.mem_cons_self) fun y hy => hx y (List.mem_cons_of_mem _ hy)]
    rfl
  | xs, b :: h, cur, hh, hx => by
    rw [List.cons_append, splitC, if_neg (hh b List.mem_cons_self), split_join c xs h (cur ++ [b]) (fun y hy => hh y (List.mem_cons_of_mem _ hy)) hx]
    simp
theorem evN_evS {k : Int} {ns : List Int} (h0 : 0 ≤ k) (h3 : k ≤ 3) (hl : ns.length = (idxK k).length) : evN (evS k ns ns.length) = ns ∧ gi (evS k ns ns.length) 0 = k := by
  obtain rfl | rfl | rfl | rfl : k = 0 ∨ k = 1 ∨ k = 2 ∨ k = 3 := by omega
  · match ns, hl with
    | [a, b, c], _ => exact ⟨rfl, rfl⟩
  · match ns, hl with
    | [a, b, c, d, e, f], _ => exact ⟨rfl, rfl⟩
  · match ns, hl with
    | [a, b, c, d, e], _ => exact ⟨rfl, rfl⟩
  · match ns, hl with
    | [a, b], _ => exact ⟨rfl, rfl⟩
theorem dec_nmL {n : Nat} (h : n ≤ 999999) : nmL (Lib.decDigits n) = n := by
  obtain ⟨a1, a2, a3, a4, a5⟩ := dec_ok n
  unfold nmL
  rw [if_pos ⟨a2, (dec_len (n := n) (by omega)).2, a3, a1⟩, a4]
theorem wrd_32 (k : Int) : ∀ b ∈ wrd k, b ≠ 32 := by
  rcases kind_cases k with rfl | rfl | rfl | rfl | ⟨h0, h1, h2, h3⟩
  · decide
  · decide
  · decide
  · decide
  · unfold wrd; rw [if_neg h0, if_neg h1, if_neg h2, if_neg h3]; simp
theorem dec_32 (n : Nat) : ∀ b ∈ Lib.decDigits n, b ≠ 32 := fun b hb e => by
  have h := (dec_ok n).1
  rw [List.all_eq_true] at h
  have h2 := dgt_iff.1 (h b hb)
  subst e
  have : (32 : UInt8).toNat = 32 := rfl
  omega
theorem numsT_eq (ns : List Int) : numsT ns = (ns.map fun x => Lib.decDigits x.toNat).flatMap (fun x => 32 :: x) := by unfold numsT; rw [List.flatMap_map]
theorem kndT_wrd {k : Int} (h0 : 0 ≤ k) (h3 : k ≤ 3) : kndT (wrd k) (idxK k).length = some k := by
  obtain rfl | rfl | rfl | rfl : k = 0 ∨ k = 1 ∨ k = 2 ∨ k = 3 := by omega
  · rfl
  · rfl
  · rfl
  · rfl
/-- what is written is read back -/
theorem par_fmt {ev : List Int} (h : fmtE ev ≠ []) : ∃ ev', parE (fmtE ev) = some ev' ∧ fmtE ev' = fmtE ev ∧ gi ev' 0 = gi ev 0 ∧ evN ev' = evN ev ∧ ev' = evS (gi ev 0) (evN ev) (evN ev).length ∧ 0 ≤ gi ev 0 ∧ gi ev 0 ≤ 3 := by
  have hall : allR 0 999999 (evN ev) = true := by
    unfold fmtE at h
    by_cases e : allR 0 999999 (evN ev) = true
    · exact e
    · rw [if_neg e] at h; exact absurd rfl h
  have hf : fmtE ev = wrd (gi ev 0) ++ numsT (evN ev) := by unfold fmtE; rw [if_pos hall]
  have hk : 0 ≤ gi ev 0 ∧ gi ev 0 ≤ 3 := by
    rcases kind_cases (gi ev 0) with e | e | e | e | ⟨h0, h1, h2, h3⟩
    · omega
    · omega
    · omega
    · omega
    · exfalso
      apply h
      rw [hf]
      unfold wrd evN idxK
      rw [if_neg h0, if_neg h1, if_neg h2, if_neg h3, if_neg h0, if_neg h1, if_neg h2, if_neg h3]; rfl
  obtain ⟨h0, h3⟩ := hk
  have hl := evN_len ev
  have e1 := evN_evS (ns := evN ev) h0 h3 hl
  refine ⟨_, ?_, ?_, e1.2, e1.1, rfl, h0, h3⟩
  · rw [hf]
    unfold parE
    rw [numsT_eq, split_join 32 _ _ [] (wrd_32 _) (fun x hx => by
      obtain ⟨y, _, rfl⟩ := List.mem_map.1 hx
      exact dec_32 _), List.nil_append]
    have hm : ((evN ev).map fun x => Lib.decDigits x.toNat).map nmL = evN ev := by
      rw [List.map_map]
      apply List.ext_getElem
      · simp
      · intro i h1 h2
        simp only [List.getElem_map, Function.comp]
        have := (allR_iff.1 hall) i h2
        rw [gi_eq h2] at this
        rw [dec_nmL (by omega)]; omega
    have hb : badN ((evN ev).map fun x => Lib.decDigits x.toNat) = false := by
      unfold badN
      rw [List.any_eq_false]
      intro x hx
      obtain ⟨y, hy, rfl⟩ := List.mem_map.1 hx
      obtain ⟨i, hi, rfl⟩ := List.mem_iff_getElem.1 hy
      have := (allR_iff.1 hall) i hi
      rw [gi_eq hi] at this
      rw [dec_nmL (by omega)]; simp; omega
    simp only
    rw [if_neg (by rw [hb]; simp), List.length_map, hl, kndT_wrd h0 h3]
    simp only
    rw [hm, hl]
  · unfold fmtE
    rw [e1.1, e1.2]
end Go.Proofs.YtkgepklapglmdaaGreatDoor

namespace Go.Proofs.YtkgepklapglmdaaGreatDoor
open Go.RowKit
attribute [local go_sem ↓] Go.wp_at_zero Go.wp_at_succ

def EvZ : Value := .agg #[.int .i64 0, .int .i64 0, .int .i64 0, .int .i64 0, .int .i64 0, .int .i64 0, .int .i64 0]
def PePost (l : List UInt8) (w : World) (e : Ending) (w' : World) : Prop := Below w.heap.size w w' ∧ ((parE l = none ∧ e = .returned (.tuple #[EvZ, .bool false])) ∨
  ∃ k a b c d f g : Int, parE l = some [k, a, b, c, d, f, g] ∧ (0 ≤ k ∧ k ≤ 3) ∧ (∀ x ∈ [a, b, c, d, f, g], 0 ≤ x ∧ x ≤ 999999) ∧ e = .returned (.tuple #[.agg #[.int .i64 k, .int .i64 a, .int .i64 b, .int .i64 c, .int .i64 d, .int .i64 f, .int .i64 g], .bool true]))
theorem below7 {B X : Nat} {w w1 : World} (h : Below B w w1) (hX : B ≤ X) (v0 v1 v2 v3 v4 v5 v6 : Value) : Below B w (((((((w1.setCell ⟨X, 0, none⟩ v0).setCell ⟨X, 1, none⟩ v1).setCell ⟨X, 2, none⟩ v2).setCell ⟨X, 3, none⟩ v3).setCell ⟨X, 4, none⟩ v4).setCell ⟨X, 5, none⟩ v5).setCell ⟨X, 6, none⟩ v6) :=
  ((((((h.setCell (p := ⟨X, 0, none⟩) hX v0).setCell (p := ⟨X, 1, none⟩) hX v1).setCell (p := ⟨X, 2, none⟩) hX v2).setCell (p := ⟨X, 3, none⟩) hX v3).setCell (p := ⟨X, 4, none⟩) hX v4).setCell (p := ⟨X, 5, none⟩) hX v5).setCell (p := ⟨X, 6, none⟩) hX v6
theorem Strs.wide {w : World} {lo hi lo' hi' : Nat} {v : Value} {xs : List (List UInt8)} (h : Strs w lo hi v xs) (hl : lo' ≤ lo) (hh : hi ≤ hi') : Strs w lo' hi' v xs := by
  obtain ⟨A, c, h1, h2, h3, h4⟩ := h
  exact ⟨A, c, h1, h2, h3, h4.wide hl hh⟩
theorem parE_bad {l w0 : List UInt8} {xs : List (List UInt8)} (h : splitC 32 [] l = w0 :: xs) (hb : badN xs = true) : parE l = none := by unfold parE; rw [h]; dsimp only; rw [if_pos hb]
theorem parE_no {l w0 : List UInt8} {xs : List (List UInt8)} (h : splitC 32 [] l = w0 :: xs) (hk : kndT w0 xs.length = none) : parE l = none := by
  unfold parE; rw [h]; dsimp only
  split
  · rfl
  · rw [hk]
theorem parE_yes {l w0 : List UInt8} {xs : List (List UInt8)} {k : Int} (h : splitC 32 [] l = w0 :: xs) (hb : badN xs = false) (hk : kndT w0 xs.length = some k) : parE l = some (evS k (xs.map nmL) (xs.map nmL).length) := by
  unfold parE; rw [h]; dsimp only; rw [if_neg (by rw [hb]; simp), hk]
theorem badN_at {xs : List (List UInt8)} {j : Nat} (h : j < xs.length) (hn : nmL (gs xs j) < 0) : badN xs = true := by
  unfold badN
  rw [List.any_eq_true]
  exact ⟨gs xs j, by rw [gs_eq h]; exact List.getElem_mem h, by simpa using hn⟩
theorem badN_all {xs : List (List UInt8)} (h : ∀ j, j < xs.length → 0 ≤ nmL (gs xs j)) : badN xs = false := by
  unfold badN
  rw [List.any_eq_false]
  intro x hx
  obtain ⟨j, hj, rfl⟩ := List.mem_iff_getElem.1 hx
  have := h j hj
  rw [gs_eq hj] at this
  simpa using this
theorem gi_mapnm {xs : List (List UInt8)} {j : Nat} (h : j < xs.length) : gi (xs.map nmL) j = nmL (gs xs j) := by
  rw [gi_eq (by simpa using h), List.getElem_map, gs_eq h]
theorem gs_cons (a : List UInt8) (t : List (List UInt8)) (j : Nat) : gs (a :: t) (j + 1) = gs t j := rfl
theorem split_memlen {c : UInt8} {l : List UInt8} {j : Nat} : (gs (splitC c [] l) j).length ≤ l.length := by
  by_cases h : j < (splitC c [] l).length
  · rw [gs_eq h]
    have := splitC_mem c l [] _ (List.getElem_mem h)
    simpa using this
  · unfold gs; rw [List.getD_eq_getElem?_getD, List.getElem?_eq_none (by omega)]; simp
end Go.Proofs.YtkgepklapglmdaaGreatDoor


namespace Go.Proofs.YtkgepklapglmdaaGreatDoor
open Go.RowKit
attribute [local go_sem ↓] Go.wp_at_zero Go.wp_at_succ

theorem kndT_at {w0 : List UInt8} {n m : Nat} (hm : m < 4) (hno : ∀ i : Nat, i < m → ¬ (w0 = wrd (i : Int) ∧ n = (idxK (i : Int)).length)) (hy : w0 = wrd (m : Int) ∧ n = (idxK (m : Int)).length) : kndT w0 n = some (m : Int) := by
  obtain rfl | rfl | rfl | rfl : m = 0 ∨ m = 1 ∨ m = 2 ∨ m = 3 := by omega
  · unfold kndT; rw [if_pos (show w0 = wrd 0 ∧ n = 3 from hy)]; rfl
  · unfold kndT; rw [if_neg (show ¬ (w0 = wrd 0 ∧ n = 3) from hno 0 (by omega)), if_pos (show w0 = wrd 1 ∧ n = 6 from hy)]; rfl
  · unfold kndT; rw [if_neg (show ¬ (w0 = wrd 0 ∧ n = 3) from hno 0 (by omega)), if_neg (show ¬ (w0 = wrd 1 ∧ n = 6) from hno 1 (by omega)), if_pos (show w0 = wrd 2 ∧ n = 5 from hy)]; rfl
  · unfold kndT; rw [if_neg (show ¬ (w0 = wrd 0 ∧ n = 3) from hno 0 (by omega)), if_neg (show ¬ (w0 = wrd 1 ∧ n = 6) from hno 1 (by omega)), if_neg (show ¬ (w0 = wrd 2 ∧ n = 5) from hno 2 (by omega)), if_pos (show w0 = wrd 3 ∧ n = 2 from hy)]; rfl
theorem kndT_non {w0 : List UInt8} {n : Nat} (hno : ∀ i : Nat, i < 4 → ¬ (w0 = wrd (i : Int) ∧ n = (idxK (i : Int)).length)) : kndT w0 n = none := by
  unfold kndT
  rw [if_neg (show ¬ (w0 = wrd 0 ∧ n = 3) from hno 0 (by omega)), if_neg (show ¬ (w0 = wrd 1 ∧ n = 6) from hno 1 (by omega)), if_neg (show ¬ (w0 = wrd 2 ∧ n = 5) from hno 2 (by omega)), if_neg (show ¬ (w0 = wrd 3 ∧ n = 2) from hno 3 (by omega))]
theorem idx_pos {k : Int} {j : Nat} (h : j < (idxK k).length) : 1 ≤ (idxK k).getD j 0 := by
  rcases kind_cases k with rfl | rfl | rfl | rfl | ⟨h0, h1, h2, h3⟩
  · exact (by decide : ∀ j, j < 3 → 1 ≤ [1, 3, 5].getD j 0) j h
  · exact (by decide : ∀ j, j < 6 → 1 ≤ [1, 2, 3, 4, 5, 6].getD j 0) j h
  · exact (by decide : ∀ j, j < 5 → 1 ≤ [1, 2, 3, 4, 5].getD j 0) j h
  · exact (by decide : ∀ j, j < 2 → 1 ≤ [1, 6].getD j 0) j h
  · unfold idxK at h; rw [if_neg h0, if_neg h1, if_neg h2, if_neg h3] at h; exact absurd h (by simp)
theorem gi_setEq {xs : List Int} {p : Nat} {x : Int} (h : p < xs.length) : gi (xs.set p x) p = x := by simp [gi, h]
theorem gi_setNe {xs : List Int} {p i : Nat} {x : Int} (h : p ≠ i) : gi (xs.set p x) i = gi xs i := by unfold gi; simp [List.getD, List.getElem?_set_ne h]
theorem gi_set7 {xs : List Int} {p i : Nat} {x : Int} (hp : p < xs.length) : gi (xs.set p x) i = if i = p then x else gi xs i := by
  by_cases h : i = p
  · subst h; rw [if_pos rfl, gi_setEq hp]
  · rw [if_neg h, gi_setNe (fun e => h e.symm)]
theorem evS_rng {k : Int} {ns : List Int} : ∀ j, j ≤ (idxK k).length → (∀ i, i < j → 0 ≤ gi ns i ∧ gi ns i ≤ 999999) → gi (evS k ns j) 0 = k ∧ ∀ i, 1 ≤ i → 0 ≤ gi (evS k ns j) i ∧ gi (evS k ns j) i ≤ 999999
  | 0, _, _ => ⟨rfl, fun i hi => by
    match i, hi with
    | 1, _ => exact ⟨by show (0 : Int) ≤ 0; omega, by show (0 : Int) ≤ 999999; omega⟩
    | 2, _ => exact ⟨by show (0 : Int) ≤ 0; omega, by show (0 : Int) ≤ 999999; omega⟩
    | 3, _ => exact ⟨by show (0 : Int) ≤ 0; omega, by show (0 : Int) ≤ 999999; omega⟩
    | 4, _ => exact ⟨by show (0 : Int) ≤ 0; omega, by show (0 : Int) ≤ 999999; omega⟩
    | 5, _ => exact ⟨by show (0 : Int) ≤ 0; omega, by show (0 : Int) ≤ 999999; omega⟩
    | 6, _ => exact ⟨by show (0 : Int) ≤ 0; omega, by show (0 : Int) ≤ 999999; omega⟩
    | i + 7, _ =>
      have : gi (evS k ns 0) (i + 7) = 0 := by unfold gi; rw [List.getD_eq_getElem?_getD, List.getElem?_eq_none (by rw [evS_len]; omega)]; rfl
      rw [this]; exact ⟨by decide, by decide⟩⟩
  | j + 1, hj, h => by
    obtain ⟨h1, h2⟩ := evS_rng (k := k) (ns := ns) j (by omega) fun i hi => h i (by omega)
    have hp1 := idx_pos (k := k) (j := j) (by omega)
    have hp2 := idx_lt (k := k) (j := j) (by omega)
    rw [evS]
    refine ⟨by rw [gi_set7 (by rw [evS_len]; omega), if_neg (by omega)]; exact h1, fun i hi => ?_⟩
    rw [gi_set7 (by rw [evS_len]; omega)]
    split
    · exact h j (by omega)
    · exact h2 i hi
theorem list7 {E : List Int} (h : E.length = 7) : E = [gi E 0, gi E 1, gi E 2, gi E 3, gi E 4, gi E 5, gi E 6] := by
  match E, h with
  | [a, b, c, d, e, f, g], _ => rfl
theorem setCell_at {w : World} {X p i : Nat} {u v : Value} (h : w.cell? ⟨X, i, none⟩ = some u) : (w.setCell ⟨X, p, none⟩ v).cell? ⟨X, i, none⟩ = some (if i = p then v else u) := by
  by_cases hp : i = p
  · subst hp; rw [if_pos rfl]; go_simp
  · rw [if_neg hp]
    have hp2 : ¬ p = i := fun e => hp e.symm
    go_simp
theorem setCell_off {w : World} {X p g i : Nat} {u v : Value} (hne : ¬ g = X) (h : w.cell? ⟨g, i, none⟩ = some u) : (w.setCell ⟨X, p, none⟩ v).cell? ⟨g, i, none⟩ = some u := by
  have hne2 : ¬ X = g := fun e => hne e.symm
  go_simp
theorem setCell_fz {w : World} {X p g i : Nat} {v : Value} (h : w.frozen? ⟨g, i, none⟩ = false) : (w.setCell ⟨X, p, none⟩ v).frozen? ⟨g, i, none⟩ = false := by
  go_simp
set_option maxRecDepth 100000 in
set_option maxHeartbeats 8000000 in
theorem ParseEventI_any (l : List UInt8) (s : ByteArray) (hs : s = TB l) (w : World) (hl : l.length ≤ 4294967200) (hsh : w.ShapedOpen Tryz.prog) :
    Calls Tryz.prog 40 #[.string s] w fun e w' => PePost l w e w' := by
  have HS := Lib.hid hs
  have HSH := Lib.hid hsh
  clear hs hsh
  have Hs := Lib.hid (show ∃ w1, w1 = (w.alloc (.cells #[.int .i64 0, .int .i64 0, .int .i64 0, .int .i64 0, .int .i64 0, .int .i64 0, .int .i64 0] 40)) ∧ Below w.heap.size w w1 ∧ w1.cell? ⟨w.heap.size, 0, none⟩ = some (.int .i64 0) ∧ w1.cell? ⟨w.heap.size, 1, none⟩ = some (.int .i64 0) ∧ w1.cell? ⟨w.heap.size, 2, none⟩ = some (.int .i64 0) ∧ w1.cell? ⟨w.heap.size, 3, none⟩ = some (.int .i64 0) ∧ w1.cell? ⟨w.heap.size, 4, none⟩ = some (.int .i64 0) ∧ w1.cell? ⟨w.heap.size, 5, none⟩ = some (.int .i64 0) ∧ w1.cell? ⟨w.heap.size, 6, none⟩ = some (.int .i64 0) ∧ w1.frozen? ⟨w.heap.size, 0, none⟩ = false ∧ w1.frozen? ⟨w.heap.size, 1, none⟩ = false ∧ w1.frozen? ⟨w.heap.size, 2, none⟩ = false ∧ w1.frozen? ⟨w.heap.size, 3, none⟩ = false ∧ w1.frozen? ⟨w.heap.size, 4, none⟩ = false ∧ w1.frozen? ⟨w.heap.size, 5, none⟩ = false ∧ w1.frozen? ⟨w.heap.size, 6, none⟩ = false ∧ w.heap.size < w1.heap.size from by
    have hb : Below w.heap.size w (w.alloc (.cells #[.int .i64 0, .int .i64 0, .int .i64 0, .int .i64 0, .int .i64 0, .int .i64 0, .int .i64 0] 40)) := (Below.refl _ _).alloc (Nat.le_refl _) _
    exact ⟨_, rfl, hb, by go_simp, by go_simp, by go_simp, by go_simp, by go_simp, by go_simp, by go_simp, by go_simp, by go_simp, by go_simp, by go_simp, by go_simp, by go_simp, by go_simp, by simp⟩)
  go_enter Tryz.func40, Tryz.ntmps40
  go_wp2_with fail
  obtain ⟨w1, hw1, hb0, c00, c01, c02, c03, c04, c05, c06, f00, f01, f02, f03, f04, f05, f06, hz⟩ := Hs.out
  rw [← hw1]
  clear hw1 Hs
  refine (Split_any 32 l _ rfl s HS.out w1 (shaped_below HSH.out hb0) (by omega)).mono ?_
  rintro e w2 ⟨vw, rfl, hw2, b2⟩
  replace c00 := keepB b2 c00; replace c01 := keepB b2 c01; replace c02 := keepB b2 c02; replace c03 := keepB b2 c03; replace c04 := keepB b2 c04; replace c05 := keepB b2 c05; replace c06 := keepB b2 c06
  replace f00 := keepF b2 (by first | (simp; done) | (simp; omega)) f00; replace f01 := keepF b2 (by first | (simp; done) | (simp; omega)) f01; replace f02 := keepF b2 (by first | (simp; done) | (simp; omega)) f02; replace f03 := keepF b2 (by first | (simp; done) | (simp; omega)) f03; replace f04 := keepF b2 (by first | (simp; done) | (simp; omega)) f04; replace f05 := keepF b2 (by first | (simp; done) | (simp; omega)) f05; replace f06 := keepF b2 (by first | (simp; done) | (simp; omega)) f06
  have HB2 := Lib.hid (hb0.trans (b2.mono (by omega)))
  have hz2 : w.heap.size < w2.heap.size := by have := b2.size; omega
  have HW2 := Lib.hid (hw2.wide (show w.heap.size ≤ w1.heap.size by omega) (Nat.le_refl _))
  obtain ⟨Aw, cw, rfl, hcw, hcw2⟩ := hw2.form
  clear b2 hb0 hw2
  obtain ⟨W, hW⟩ : ∃ W, W = splitC 32 [] l := ⟨_, rfl⟩
  have HWL := Lib.hid (show W.length ≤ l.length + 1 by rw [hW, splitC_len]; have : l.count 32 ≤ l.length := List.count_le_length; omega)
  have HML := Lib.hid (show ∀ j, (gs W j).length ≤ l.length from fun j => by rw [hW]; exact split_memlen)
  have hne := splitC_ne 32 l []
  rw [← hW] at HW2 hcw hne ⊢
  have HWE := Lib.hid hW.symm
  clear hW
  obtain ⟨w0, xs, rfl⟩ : ∃ a t, W = a :: t := by
    cases W with
    | nil => exact absurd rfl hne
    | cons a t => exact ⟨a, t, rfl⟩
  have hWl : (w0 :: xs).length = xs.length + 1 := rfl
  rw [hWl] at HWL hcw ⊢
  rw [show (Value.slice Aw (w0 :: xs).length cw) = Value.slice Aw (xs.length + 1) cw from rfl] at HW2
  obtain ⟨bw, ow, hAw, hbw1, hbw2, cz0⟩ := HW2.out.cell (k := 0) (by simp)
  subst hAw
  replace cz0 : w2.cell? ⟨bw, ow, none⟩ = some (.string (TB w0)) := cz0
  obtain ⟨z0, hz0⟩ : ∃ z, z = TB w0 := ⟨_, rfl⟩
  have HZZ := Lib.hid (show z0.toList = w0 by rw [hz0, TB_toList])
  rw [← hz0] at cz0
  have hxl : xs.length ≤ 4294967295 := by have := HWL.out; omega
  clear hz0 hne hWl
  have bl : Below w2.heap.size w2 (w2.alloc (.cells #[.int .i64 0, .int .i64 1, .int .i64 2, .int .i64 3] 3)) := (Below.refl _ _).alloc (Nat.le_refl _) _
  have HBL := Lib.hid bl
  have HLT := Lib.hid (show ∀ i : Nat, i < 4 → (w2.alloc (.cells #[.int .i64 0, .int .i64 1, .int .i64 2, .int .i64 3] 3)).cell? ⟨w2.heap.size, i, none⟩ = some (.int .i64 (i : Int)) from fun i hi => by
    obtain rfl | rfl | rfl | rfl : i = 0 ∨ i = 1 ∨ i = 2 ∨ i = 3 := by omega
    · go_simp
    · go_simp
    · go_simp
    · go_simp)
  have hzl : w2.heap.size < (w2.alloc (.cells #[.int .i64 0, .int .i64 1, .int .i64 2, .int .i64 3] 3)).heap.size := by simp
  clear bl
  go_wp2
  go_loopw [6, 7, 8, 9, 10, 11, 12, 17, 41] (fun _ _ _ _ _ _ _ i _ wr => ∃ m : Nat, m ≤ 4 ∧ i = .int .i64 (m : Int) ∧ Hid (∀ i : Nat, i < m → ¬ (w0 = wrd (i : Int) ∧ xs.length = (idxK (i : Int)).length)) ∧ Hid (Below w2.heap.size w2 wr) ∧ Hid (∀ i : Nat, i < 4 → wr.cell? ⟨w2.heap.size, i, none⟩ = some (.int .i64 (i : Int))) ∧ w2.heap.size < wr.heap.size) (fun _ _ _ _ _ _ _ i _ _ => 4 - (intOf i).toNat)
  case atStart => exact ⟨0, Nat.zero_le _, rfl, fun i hi => absurd hi (by omega), HBL.out, HLT.out, hzl⟩
  case round =>
    obtain ⟨m, hm, rfl, HNM, HB, HLI, hzr⟩ := hrel
    clear HBL HLT hzl
    obtain ⟨wo, rfl⟩ : ∃ wo : World, wo = wr := ⟨_, rfl⟩
    have c00 := keepB HB.out c00
    have c01 := keepB HB.out c01
    have c02 := keepB HB.out c02
    have c03 := keepB HB.out c03
    have c04 := keepB HB.out c04
    have c05 := keepB HB.out c05
    have c06 := keepB HB.out c06
    have f00 := keepF HB.out (by first | (simp; done) | (simp; omega)) f00
    have f01 := keepF HB.out (by first | (simp; done) | (simp; omega)) f01
    have f02 := keepF HB.out (by first | (simp; done) | (simp; omega)) f02
    have f03 := keepF HB.out (by first | (simp; done) | (simp; omega)) f03
    have f04 := keepF HB.out (by first | (simp; done) | (simp; omega)) f04
    have f05 := keepF HB.out (by first | (simp; done) | (simp; omega)) f05
    have f06 := keepF HB.out (by first | (simp; done) | (simp; omega)) f06
    by_cases hlt : m < 4
    rotate_left
    · have hnm : ¬ (m : Int) < 4 := by omega
      have HN := Lib.hid (parE_no HWE.out (kndT_non fun i hi => HNM.out i (by omega)))
      have HBB := Lib.hid (HB2.out.trans (HB.out.mono (Nat.le_of_lt hz2)))
      go_wp2
      refine bodyPost_ret (v := .tuple #[EvZ, .bool false]) (by simp [results, EvZ, Tryz.results40, go_sem, *]) rfl ?_
      exact ⟨below7 HBB.out (Nat.le_refl _) _ _ _ _ _ _ _, .inl ⟨HN.out, rfl⟩⟩
    have m0 : (0 : Int) ≤ (m : Int) := by omega
    have m1 : (m : Int) < 4 := by omega
    have cl := HLI.out m hlt
    go_wp2_with fail
    obtain ⟨w4, hw1⟩ : ∃ w4, w4 = wo.alloc (.cells #[.int .i64 ((m : Int)), .int .i64 0, .int .i64 0, .int .i64 0, .int .i64 0, .int .i64 0, .int .i64 0] 40) := ⟨_, rfl⟩
    have e0 : w4.cell? ⟨wo.heap.size, 0, none⟩ = some (.int .i64 ((m : Int))) := by rw [hw1]; go_simp
    have e1 : w4.cell? ⟨wo.heap.size, 1, none⟩ = some (.int .i64 0) := by rw [hw1]; go_simp
    have e2 : w4.cell? ⟨wo.heap.size, 2, none⟩ = some (.int .i64 0) := by rw [hw1]; go_simp
    have e3 : w4.cell? ⟨wo.heap.size, 3, none⟩ = some (.int .i64 0) := by rw [hw1]; go_simp
    have e4 : w4.cell? ⟨wo.heap.size, 4, none⟩ = some (.int .i64 0) := by rw [hw1]; go_simp
    have e5 : w4.cell? ⟨wo.heap.size, 5, none⟩ = some (.int .i64 0) := by rw [hw1]; go_simp
    have e6 : w4.cell? ⟨wo.heap.size, 6, none⟩ = some (.int .i64 0) := by rw [hw1]; go_simp
    have be : Below wo.heap.size wo w4 := by rw [hw1]; exact (Below.refl _ _).alloc (Nat.le_refl _) _
    have ze : wo.heap.size < w4.heap.size := by rw [hw1]; simp
    have HZe := Lib.hid (show w4.heap.size = wo.heap.size + 1 by rw [hw1]; simp)
    have fe0 : w4.frozen? ⟨wo.heap.size, 0, none⟩ = false := by rw [hw1]; go_simp
    have fe1 : w4.frozen? ⟨wo.heap.size, 1, none⟩ = false := by rw [hw1]; go_simp
    have fe2 : w4.frozen? ⟨wo.heap.size, 2, none⟩ = false := by rw [hw1]; go_simp
    have fe3 : w4.frozen? ⟨wo.heap.size, 3, none⟩ = false := by rw [hw1]; go_simp
    have fe4 : w4.frozen? ⟨wo.heap.size, 4, none⟩ = false := by rw [hw1]; go_simp
    have fe5 : w4.frozen? ⟨wo.heap.size, 5, none⟩ = false := by rw [hw1]; go_simp
    have fe6 : w4.frozen? ⟨wo.heap.size, 6, none⟩ = false := by rw [hw1]; go_simp
    have He := Lib.hid (show w4.heap[wo.heap.size]? = some (.cells #[.int .i64 ((m : Int)), .int .i64 0, .int .i64 0, .int .i64 0, .int .i64 0, .int .i64 0, .int .i64 0] 40) by rw [hw1]; exact heap_alloc_new wo _)
    rw [← hw1]
    clear hw1
    refine (numbersOfI_any wo.heap.size (m : Int) w4 e0).mono ?_
    rintro e w5 ⟨A5, rfl, b5, hcs⟩
    replace c00 := keepB be c00; replace c01 := keepB be c01; replace c02 := keepB be c02; replace c03 := keepB be c03; replace c04 := keepB be c04; replace c05 := keepB be c05; replace c06 := keepB be c06
    replace f00 := keepF be (by first | (simp; done) | (simp; omega)) f00; replace f01 := keepF be (by first | (simp; done) | (simp; omega)) f01; replace f02 := keepF be (by first | (simp; done) | (simp; omega)) f02; replace f03 := keepF be (by first | (simp; done) | (simp; omega)) f03; replace f04 := keepF be (by first | (simp; done) | (simp; omega)) f04; replace f05 := keepF be (by first | (simp; done) | (simp; omega)) f05; replace f06 := keepF be (by first | (simp; done) | (simp; omega)) f06
    replace c00 := keepB b5 c00; replace c01 := keepB b5 c01; replace c02 := keepB b5 c02; replace c03 := keepB b5 c03; replace c04 := keepB b5 c04; replace c05 := keepB b5 c05; replace c06 := keepB b5 c06; replace e0 := keepB b5 e0; replace e1 := keepB b5 e1; replace e2 := keepB b5 e2; replace e3 := keepB b5 e3; replace e4 := keepB b5 e4; replace e5 := keepB b5 e5; replace e6 := keepB b5 e6
    replace f00 := keepF b5 (by first | (simp; done) | (simp; omega)) f00; replace f01 := keepF b5 (by first | (simp; done) | (simp; omega)) f01; replace f02 := keepF b5 (by first | (simp; done) | (simp; omega)) f02; replace f03 := keepF b5 (by first | (simp; done) | (simp; omega)) f03; replace f04 := keepF b5 (by first | (simp; done) | (simp; omega)) f04; replace f05 := keepF b5 (by first | (simp; done) | (simp; omega)) f05; replace f06 := keepF b5 (by first | (simp; done) | (simp; omega)) f06; replace fe0 := keepF b5 (by first | (simp; done) | (simp; omega)) fe0; replace fe1 := keepF b5 (by first | (simp; done) | (simp; omega)) fe1; replace fe2 := keepF b5 (by first | (simp; done) | (simp; omega)) fe2; replace fe3 := keepF b5 (by first | (simp; done) | (simp; omega)) fe3; replace fe4 := keepF b5 (by first | (simp; done) | (simp; omega)) fe4; replace fe5 := keepF b5 (by first | (simp; done) | (simp; omega)) fe5; replace fe6 := keepF b5 (by first | (simp; done) | (simp; omega)) fe6
    have HB5 := Lib.hid (HB.out.trans ((be.trans (b5.mono (Nat.le_of_lt ze))).mono (Nat.le_of_lt hzr)))
    have HCS := Lib.hid hcs
    have hz5 : wo.heap.size < w5.heap.size := by have := b5.size; omega
    have h45 : w4.heap.size ≤ w5.heap.size := b5.size
    have hwo4 : wo.heap.size < w4.heap.size := ze
    have HLI5 := Lib.hid (show ∀ i : Nat, i < 4 → w5.cell? ⟨w2.heap.size, i, none⟩ = some (.int .i64 (i : Int)) from fun i hi => keepB b5 (keepB be (HLI.out i hi)))
    have cz := keepB HB5.out cz0
    obtain ⟨X, hX⟩ : ∃ X, X = wo.heap.size := ⟨_, rfl⟩
    rw [← hX] at e0 e1 e2 e3 e4 e5 e6 fe0 fe1 fe2 fe3 fe4 fe5 fe6 HCS hz5 hwo4 hzr
    rw [← hX]
    have HXS := Lib.hid hX
    clear be b5 hcs He HZe hX ze HLI HB
    obtain ⟨n, hn⟩ : ∃ n, n = (idxK (m : Int)).length := ⟨_, rfl⟩
    have hn6 : n ≤ 6 := by rw [hn]; exact idxK_len _
    have HN := Lib.hid hn
    rw [← hn] at HCS ⊢
    obtain ⟨zw, hzw⟩ : ∃ z, z = TB (wrd (m : Int)) := ⟨_, rfl⟩
    have HZW := Lib.hid hzw
    have HZWL := Lib.hid (show zw.toList = wrd (m : Int) by rw [hzw, TB_toList])
    have czd : w5.drew.cell? ⟨bw, ow, none⟩ = some (.string z0) := cz
    have gn : IntKind.i64.wrap ((n : Int) + 1) = (n : Int) + 1 := IntWalk.i64_in _ (by omega)
    clear hn hzw
    by_cases hw : w0 = wrd (m : Int)
    rotate_left
    · have q0 : (z0.toList == zw.toList) = false := by rw [HZZ.out, HZWL.out]; exact beq_false_of_ne hw
      have HNM2 := Lib.hid (show ∀ i : Nat, i < m + 1 → ¬ (w0 = wrd (i : Int) ∧ xs.length = (idxK (i : Int)).length) from fun i hi => by
        rcases Nat.lt_or_ge i m with h' | h'
        · exact HNM.out i h'
        · obtain rfl : i = m := by omega
          exact fun h => hw h.1)
      clear hw
      go_wp2
      refine wp_region_held_drew (S := fun w' => w'.cell? ⟨bw, ow, none⟩ = some (.string z0)) (by kernel_rfl) ?_ (fun hHeld => ?_)
      · (first | (try dsimp only); go_keep | (first | exact keepW bg1 (by first | (simp; done) | (simp; omega)) (by assumption)))
      refine tkW 0 24 rfl rfl (by kernel_rfl) hHeld (by intro w hSw; (try dsimp only at hSw); go_simp; try with_reducible rfl) ?_ (fun _ _ _ h => h)
      simp only [Act.put, lyA, lyB, lyC]
      refine tkW 1 25 rfl rfl (by kernel_rfl) hHeld (by intro w hSw; (try dsimp only at hSw); go_simp; try with_reducible rfl) ?_ (fun _ _ _ h => h)
      simp only [Act.put, lyA, lyB, lyC]
      refine tkW 2 26 rfl rfl (by kernel_rfl) hHeld (by intro w hSw; (try dsimp only at hSw); go_simp; try with_reducible rfl) ?_ (fun _ _ _ h => h)
      simp only [Act.put, lyA, lyB, lyC]
      refine tkW 3 27 rfl rfl (by kernel_rfl) hHeld (by intro w hSw; (try dsimp only at hSw); go_simp; try with_reducible rfl) ?_ (fun _ _ _ h => h)
      simp only [Act.put, lyA, lyB, lyC]
      refine wpAnyH_ready (rs := [4]) (by kernel_rfl) (by simp) ?_
      refine AllReadyH.cons (o := ⟨some 28, _, _, _, _, _⟩) rfl (fun K hK => ?_) AllReadyH.nil
      go_simp
      go_at_call 79
      refine (wordOf_any (m : Int) _).mono ?_
      rw [← HZW.out]
      rintro e x1 ⟨rfl, hx1⟩
      subst hx1
      go_wp2_with fail
      refine hK.out _ _ ?_ (fun hHeld2 => ?_)
      · (first | (try dsimp only); go_keep | (first | exact keepW bg1 (by first | (simp; done) | (simp; omega)) (by assumption)))
      clear hK K hHeld
      have hHeld := hHeld2
      clear hHeld2
      try simp only [Act.put, lyA, lyB, lyC]
      refine tkW 5 29 rfl rfl (by kernel_rfl) hHeld (by intro w hSw; (try dsimp only at hSw); go_simp; try with_reducible rfl) ?_ (fun _ _ _ h => h)
      simp only [Act.put, lyA, lyB, lyC]
      refine tkW 6 30 rfl rfl (by kernel_rfl) hHeld (by intro w hSw; (try dsimp only at hSw); go_simp; try with_reducible rfl) ?_ (fun _ _ _ h => h)
      simp only [Act.put, lyA, lyB, lyC]
      refine wpAnyH_take (i := 7) (oi := ⟨some 31, _, _, _, _, _⟩) (v := undef) rfl (by kernel_rfl) (by kernel_rfl) (by kernel_rfl) (fun _ _ _ h => h) (Or.inr ⟨by kernel_rfl, rfl⟩) (by assumption) ?_
      simp only [Act.put, lyA, lyB, lyC]
      refine wpAnyH_take (i := 8) (oi := ⟨some 32, _, _, _, _, _⟩) (v := undef) rfl (by kernel_rfl) (by kernel_rfl) (by kernel_rfl) (fun _ _ _ h => h) (Or.inr ⟨by kernel_rfl, rfl⟩) (by assumption) ?_
      simp only [Act.put, lyA, lyB, lyC]
      refine wpAnyH_take (i := 9) (oi := ⟨some 33, _, _, _, _, _⟩) (v := undef) rfl (by kernel_rfl) (by kernel_rfl) (by kernel_rfl) (fun _ _ _ h => h) (Or.inr ⟨by kernel_rfl, rfl⟩) (by assumption) ?_
      simp only [Act.put, lyA, lyB, lyC]
      refine wpAnyH_take (i := 10) (oi := ⟨some 34, _, _, _, _, _⟩) (v := undef) rfl (by kernel_rfl) (by kernel_rfl) (by kernel_rfl) (fun _ _ _ h => h) (Or.inr ⟨by kernel_rfl, rfl⟩) (by assumption) ?_
      simp only [Act.put, lyA, lyB, lyC]
      refine wpAnyH_take (i := 11) (oi := ⟨some 35, _, _, _, _, _⟩) (v := undef) rfl (by kernel_rfl) (by kernel_rfl) (by kernel_rfl) (fun _ _ _ h => h) (Or.inr ⟨by kernel_rfl, rfl⟩) (by assumption) ?_
      simp only [Act.put, lyA, lyB, lyC]
      refine wpAnyH_take (i := 12) (oi := ⟨some 36, _, _, _, _, _⟩) (v := undef) rfl (by kernel_rfl) (by kernel_rfl) (by kernel_rfl) (fun _ _ _ h => h) (Or.inr ⟨by kernel_rfl, rfl⟩) (by assumption) ?_
      simp only [Act.put, lyA, lyB, lyC]
      refine tkW 13 37 rfl rfl (by kernel_rfl) hHeld (by intro w hSw; (try dsimp only at hSw); go_simp; try with_reducible rfl) ?_ (fun _ _ _ h => h)
      simp only [Act.put, lyA, lyB, lyC]
      refine wpAnyH_done (by kernel_rfl) ?_ _
      clear hHeld
      go_wp2
      go_roundw
      case rel => exact ⟨m + 1, hlt, by go_num, HNM2.out, HB5.out.drew, fun i hi => HLI5.out i hi, by show _ < w5.heap.size; omega⟩
      case measure => simp [intOf]; omega
    have q0 : (z0.toList == zw.toList) = true := by rw [HZZ.out, HZWL.out, hw]; simp
    by_cases hle : xs.length = n
    rotate_left
    · have e1 : ((xs.length : Int) + 1 == (n : Int) + 1) = false := beq_f (by omega)
      have e2 : ((xs.length : Int) == (n : Int)) = false := beq_f (by omega)
      have e3 : (xs.length == n) = false := by simpa using hle
      have HNM2 := Lib.hid (show ∀ i : Nat, i < m + 1 → ¬ (w0 = wrd (i : Int) ∧ xs.length = (idxK (i : Int)).length) from fun i hi => by
        rcases Nat.lt_or_ge i m with h' | h'
        · exact HNM.out i h'
        · obtain rfl : i = m := by omega
          exact fun h => hle (by rw [HN.out]; exact h.2))
      clear hw hle
      go_wp2
      refine wp_region_held_drew (S := fun w' => w'.cell? ⟨bw, ow, none⟩ = some (.string z0)) (by kernel_rfl) ?_ (fun hHeld => ?_)
      · (first | (try dsimp only); go_keep | (first | exact keepW bg1 (by first | (simp; done) | (simp; omega)) (by assumption)))
      refine tkW 0 24 rfl rfl (by kernel_rfl) hHeld (by intro w hSw; (try dsimp only at hSw); go_simp; try with_reducible rfl) ?_ (fun _ _ _ h => h)
      simp only [Act.put, lyA, lyB, lyC]
      refine tkW 1 25 rfl rfl (by kernel_rfl) hHeld (by intro w hSw; (try dsimp only at hSw); go_simp; try with_reducible rfl) ?_ (fun _ _ _ h => h)
      simp only [Act.put, lyA, lyB, lyC]
      refine tkW 2 26 rfl rfl (by kernel_rfl) hHeld (by intro w hSw; (try dsimp only at hSw); go_simp; try with_reducible rfl) ?_ (fun _ _ _ h => h)
      simp only [Act.put, lyA, lyB, lyC]
      refine tkW 3 27 rfl rfl (by kernel_rfl) hHeld (by intro w hSw; (try dsimp only at hSw); go_simp; try with_reducible rfl) ?_ (fun _ _ _ h => h)
      simp only [Act.put, lyA, lyB, lyC]
      refine wpAnyH_ready (rs := [4]) (by kernel_rfl) (by simp) ?_
      refine AllReadyH.cons (o := ⟨some 28, _, _, _, _, _⟩) rfl (fun K hK => ?_) AllReadyH.nil
      go_simp
      go_at_call 79
      refine (wordOf_any (m : Int) _).mono ?_
      rw [← HZW.out]
      rintro e x1 ⟨rfl, hx1⟩
      subst hx1
      go_wp2_with fail
      refine hK.out _ _ ?_ (fun hHeld2 => ?_)
      · (first | (try dsimp only); go_keep | (first | exact keepW bg1 (by first | (simp; done) | (simp; omega)) (by assumption)))
      clear hK K hHeld
      have hHeld := hHeld2
      clear hHeld2
      try simp only [Act.put, lyA, lyB, lyC]
      refine tkW 5 29 rfl rfl (by kernel_rfl) hHeld (by intro w hSw; (try dsimp only at hSw); go_simp; try with_reducible rfl) ?_ (fun _ _ _ h => h)
      simp only [Act.put, lyA, lyB, lyC]
      refine tkW 6 30 rfl rfl (by kernel_rfl) hHeld (by intro w hSw; (try dsimp only at hSw); go_simp; try with_reducible rfl) ?_ (fun _ _ _ h => h)
      simp only [Act.put, lyA, lyB, lyC]
      refine tkW 7 31 rfl rfl (by kernel_rfl) hHeld (by intro w hSw; (try dsimp only at hSw); go_simp; try with_reducible rfl) ?_ (fun _ _ _ h => h)
      simp only [Act.put, lyA, lyB, lyC]
      refine tkW 8 32 rfl rfl (by kernel_rfl) hHeld (by intro w hSw; (try dsimp only at hSw); go_simp; try with_reducible rfl) ?_ (fun _ _ _ h => h)
      simp only [Act.put, lyA, lyB, lyC]
      refine tkW 9 33 rfl rfl (by kernel_rfl) hHeld (by intro w hSw; (try dsimp only at hSw); go_simp; try with_reducible rfl) ?_ (fun _ _ _ h => h)
      simp only [Act.put, lyA, lyB, lyC]
      refine tkW 10 34 rfl rfl (by kernel_rfl) hHeld (by intro w hSw; (try dsimp only at hSw); go_simp; try with_reducible rfl) ?_ (fun _ _ _ h => h)
      simp only [Act.put, lyA, lyB, lyC]
      refine tkW 11 35 rfl rfl (by kernel_rfl) hHeld (by intro w hSw; (try dsimp only at hSw); go_simp; try with_reducible rfl) ?_ (fun _ _ _ h => h)
      simp only [Act.put, lyA, lyB, lyC]
      refine tkW 12 36 rfl rfl (by kernel_rfl) hHeld (by intro w hSw; (try dsimp only at hSw); go_simp; try with_reducible rfl) ?_ (fun _ _ _ h => h)
      simp only [Act.put, lyA, lyB, lyC]
      refine tkW 13 37 rfl rfl (by kernel_rfl) hHeld (by intro w hSw; (try dsimp only at hSw); go_simp; try with_reducible rfl) ?_ (fun _ _ _ h => h)
      simp only [Act.put, lyA, lyB, lyC]
      refine wpAnyH_done (by kernel_rfl) ?_ _
      clear hHeld
      go_wp2
      go_roundw
      case rel => exact ⟨m + 1, hlt, by go_num, HNM2.out, HB5.out.drew, fun i hi => HLI5.out i hi, by show _ < w5.heap.size; omega⟩
      case measure => simp [intOf]; omega
    have HKT := Lib.hid (kndT_at hlt HNM.out ⟨hw, by rw [← HN.out]; exact hle⟩)
    obtain rfl : n = xs.length := hle.symm
    have hx1 : 1 ≤ xs.length := by
      rw [HN.out]
      obtain rfl | rfl | rfl | rfl : m = 0 ∨ m = 1 ∨ m = 2 ∨ m = 3 := by omega
      · decide
      · decide
      · decide
      · decide
    clear hw hle
    go_wp2
    refine wp_region_held_drew (S := fun w' => w'.cell? ⟨bw, ow, none⟩ = some (.string z0)) (by kernel_rfl) ?_ (fun hHeld => ?_)
    · (first | (try dsimp only); go_keep | (first | exact keepW bg1 (by first | (simp; done) | (simp; omega)) (by assumption)))
    refine tkW 0 24 rfl rfl (by kernel_rfl) hHeld (by intro w hSw; (try dsimp only at hSw); go_simp; try with_reducible rfl) ?_ (fun _ _ _ h => h)
    simp only [Act.put, lyA, lyB, lyC]
    refine tkW 1 25 rfl rfl (by kernel_rfl) hHeld (by intro w hSw; (try dsimp only at hSw); go_simp; try with_reducible rfl) ?_ (fun _ _ _ h => h)
    simp only [Act.put, lyA, lyB, lyC]
    refine tkW 2 26 rfl rfl (by kernel_rfl) hHeld (by intro w hSw; (try dsimp only at hSw); go_simp; try with_reducible rfl) ?_ (fun _ _ _ h => h)
    simp only [Act.put, lyA, lyB, lyC]
    refine tkW 3 27 rfl rfl (by kernel_rfl) hHeld (by intro w hSw; (try dsimp only at hSw); go_simp; try with_reducible rfl) ?_ (fun _ _ _ h => h)
    simp only [Act.put, lyA, lyB, lyC]
    refine wpAnyH_ready (rs := [4]) (by kernel_rfl) (by simp) ?_
    refine AllReadyH.cons (o := ⟨some 28, _, _, _, _, _⟩) rfl (fun K hK => ?_) AllReadyH.nil
    go_simp
    go_at_call 79
    refine (wordOf_any (m : Int) _).mono ?_
    rw [← HZW.out]
    rintro e x1 ⟨rfl, hx1⟩
    subst hx1
    go_wp2_with fail
    refine hK.out _ _ ?_ (fun hHeld2 => ?_)
    · (first | (try dsimp only); go_keep | (first | exact keepW bg1 (by first | (simp; done) | (simp; omega)) (by assumption)))
    clear hK K hHeld
    have hHeld := hHeld2
    clear hHeld2
    try simp only [Act.put, lyA, lyB, lyC]
    refine tkW 5 29 rfl rfl (by kernel_rfl) hHeld (by intro w hSw; (try dsimp only at hSw); go_simp; try with_reducible rfl) ?_ (fun _ _ _ h => h)
    simp only [Act.put, lyA, lyB, lyC]
    refine tkW 6 30 rfl rfl (by kernel_rfl) hHeld (by intro w hSw; (try dsimp only at hSw); go_simp; try with_reducible rfl) ?_ (fun _ _ _ h => h)
    simp only [Act.put, lyA, lyB, lyC]
    refine tkW 7 31 rfl rfl (by kernel_rfl) hHeld (by intro w hSw; (try dsimp only at hSw); go_simp; try with_reducible rfl) ?_ (fun _ _ _ h => h)
    simp only [Act.put, lyA, lyB, lyC]
    refine tkW 8 32 rfl rfl (by kernel_rfl) hHeld (by intro w hSw; (try dsimp only at hSw); go_simp; try with_reducible rfl) ?_ (fun _ _ _ h => h)
    simp only [Act.put, lyA, lyB, lyC]
    refine tkW 9 33 rfl rfl (by kernel_rfl) hHeld (by intro w hSw; (try dsimp only at hSw); go_simp; try with_reducible rfl) ?_ (fun _ _ _ h => h)
    simp only [Act.put, lyA, lyB, lyC]
    refine tkW 10 34 rfl rfl (by kernel_rfl) hHeld (by intro w hSw; (try dsimp only at hSw); go_simp; try with_reducible rfl) ?_ (fun _ _ _ h => h)
    simp only [Act.put, lyA, lyB, lyC]
    refine tkW 11 35 rfl rfl (by kernel_rfl) hHeld (by intro w hSw; (try dsimp only at hSw); go_simp; try with_reducible rfl) ?_ (fun _ _ _ h => h)
    simp only [Act.put, lyA, lyB, lyC]
    refine tkW 12 36 rfl rfl (by kernel_rfl) hHeld (by intro w hSw; (try dsimp only at hSw); go_simp; try with_reducible rfl) ?_ (fun _ _ _ h => h)
    simp only [Act.put, lyA, lyB, lyC]
    refine tkW 13 37 rfl rfl (by kernel_rfl) hHeld (by intro w hSw; (try dsimp only at hSw); go_simp; try with_reducible rfl) ?_ (fun _ _ _ h => h)
    simp only [Act.put, lyA, lyB, lyC]
    refine wpAnyH_done (by kernel_rfl) ?_ _
    clear hHeld
    obtain ⟨gN, hA5, hg1, hg2, _⟩ := HCS.out 0 hx1
    subst hA5
    have HCP := Lib.hid (show ∀ j, j < xs.length → w5.cell? ⟨gN, j, none⟩ = some (.pointer (some ⟨X, (idxK (m : Int)).getD j 0, none⟩)) from fun j hj => by
      obtain ⟨g, hA, _, _, cp⟩ := HCS.out j hj
      simp only [Option.some.injEq, Addr.mk.injEq, and_true] at hA
      obtain rfl := hA
      exact cp)
    have HE0 := Lib.hid (show ∀ i, i < 7 → w5.cell? ⟨X, i, none⟩ = some (.int .i64 (gi (evS (m : Int) (xs.map nmL) 0) i)) ∧ w5.frozen? ⟨X, i, none⟩ = false from fun i hi => by
      obtain rfl | rfl | rfl | rfl | rfl | rfl | rfl : i = 0 ∨ i = 1 ∨ i = 2 ∨ i = 3 ∨ i = 4 ∨ i = 5 ∨ i = 6 := by omega
      · exact ⟨e0, fe0⟩
      · exact ⟨e1, fe1⟩
      · exact ⟨e2, fe2⟩
      · exact ⟨e3, fe3⟩
      · exact ⟨e4, fe4⟩
      · exact ⟨e5, fe5⟩
      · exact ⟨e6, fe6⟩)
    have hgX : ¬ gN = X := by omega
    have hX2 : w2.heap.size ≤ X := by omega
    have HWK := Lib.hid (show ∀ j, j < xs.length → w5.cell? ⟨bw, ow + 1 + j, none⟩ = some (.string (TB (gs xs j))) from fun j hj => by
      have h9 := (HW2.out.below HB5.out (Nat.le_refl _)).cell' (k := j + 1) (by simp; omega)
      rw [gs_cons, show ow + (j + 1) = ow + 1 + j by omega] at h9
      exact h9)
    clear e0 e1 e2 e3 e4 e5 e6 fe0 fe1 fe2 fe3 fe4 fe5 fe6 HCS
    go_wp2
    go_loopw [9, 10, 11, 12, 41] (fun _ _ _ _ j wr => ∃ jj : Nat, jj ≤ xs.length ∧ j = .int .i64 jj ∧ Hid (∀ i, i < jj → 0 ≤ nmL (gs xs i)) ∧ Hid (∀ i, i < 7 → wr.cell? ⟨X, i, none⟩ = some (.int .i64 (gi (evS (m : Int) (xs.map nmL) jj) i)) ∧ wr.frozen? ⟨X, i, none⟩ = false) ∧ Hid (Below w2.heap.size w5 wr) ∧ Hid (∀ j, j < xs.length → wr.cell? ⟨gN, j, none⟩ = some (.pointer (some ⟨X, (idxK (m : Int)).getD j 0, none⟩))) ∧ w5.heap.size ≤ wr.heap.size) (fun _ _ _ _ j _ => xs.length - (intOf j).toNat)
    case atStart => exact ⟨0, Nat.zero_le _, rfl, fun i hi => absurd hi (by omega), HE0.out, (Below.refl _ _).drew, HCP.out, Nat.le_refl _⟩
    case round =>
      obtain ⟨j, hj, rfl, HP, HE, HB9, HCP2, hz9⟩ := hrel
      clear HE0 HCP
      obtain ⟨wi, rfl⟩ : ∃ wi : World, wi = wr := ⟨_, rfl⟩
      have c00 := keepC HB9.out hz2 c00
      have f00 := keepF HB9.out hz2 f00
      have c01 := keepC HB9.out hz2 c01
      have f01 := keepF HB9.out hz2 f01
      have c02 := keepC HB9.out hz2 c02
      have f02 := keepF HB9.out hz2 f02
      have c03 := keepC HB9.out hz2 c03
      have f03 := keepF HB9.out hz2 f03
      have c04 := keepC HB9.out hz2 c04
      have f04 := keepF HB9.out hz2 f04
      have c05 := keepC HB9.out hz2 c05
      have f05 := keepF HB9.out hz2 f05
      have c06 := keepC HB9.out hz2 c06
      have f06 := keepF HB9.out hz2 f06
      have HBB := Lib.hid (HB2.out.trans ((HB5.out.trans HB9.out).mono (Nat.le_of_lt hz2)))
      by_cases hjl : j < xs.length
      rotate_left
      · have hnj : ¬ (j : Int) < (xs.length : Int) := by omega
        obtain ⟨E, hE⟩ : ∃ E, E = evS (m : Int) (xs.map nmL) j := ⟨_, rfl⟩
        have hE7 : E.length = 7 := by rw [hE, evS_len]
        have hEr := evS_rng (k := (m : Int)) (ns := xs.map nmL) j (by rw [← HN.out]; exact hj) (fun i hi => by rw [gi_mapnm (by omega)]; exact ⟨HP.out i hi, (nmL_rng _).2⟩)
        have hpar := parE_yes HWE.out (badN_all fun i hi => HP.out i (by omega)) HKT.out
        rw [List.length_map, show xs.length = j by omega] at hpar
        rw [← hE] at HE hEr hpar
        rw [list7 hE7] at hpar
        have a0 := (HE.out 0 (by omega)).1
        have a1 := (HE.out 1 (by omega)).1
        have a2 := (HE.out 2 (by omega)).1
        have a3 := (HE.out 3 (by omega)).1
        have a4 := (HE.out 4 (by omega)).1
        have a5 := (HE.out 5 (by omega)).1
        have a6 := (HE.out 6 (by omega)).1
        have r0 := hEr.1
        have r1 := hEr.2 1 (by omega)
        have r2 := hEr.2 2 (by omega)
        have r3 := hEr.2 3 (by omega)
        have r4 := hEr.2 4 (by omega)
        have r5 := hEr.2 5 (by omega)
        have r6 := hEr.2 6 (by omega)
        obtain ⟨y0, hy0⟩ : ∃ y, y = gi E 0 := ⟨_, rfl⟩
        obtain ⟨y1, hy1⟩ : ∃ y, y = gi E 1 := ⟨_, rfl⟩
        obtain ⟨y2, hy2⟩ : ∃ y, y = gi E 2 := ⟨_, rfl⟩
        obtain ⟨y3, hy3⟩ : ∃ y, y = gi E 3 := ⟨_, rfl⟩
        obtain ⟨y4, hy4⟩ : ∃ y, y = gi E 4 := ⟨_, rfl⟩
        obtain ⟨y5, hy5⟩ : ∃ y, y = gi E 5 := ⟨_, rfl⟩
        obtain ⟨y6, hy6⟩ : ∃ y, y = gi E 6 := ⟨_, rfl⟩
        rw [← hy0, ← hy1, ← hy2, ← hy3, ← hy4, ← hy5, ← hy6] at hpar
        rw [← hy0] at a0 r0
        rw [← hy1] at a1 r1
        rw [← hy2] at a2 r2
        rw [← hy3] at a3 r3
        rw [← hy4] at a4 r4
        rw [← hy5] at a5 r5
        rw [← hy6] at a6 r6
        have HPAR := Lib.hid hpar
        have HR := Lib.hid (show (0 ≤ y0 ∧ y0 ≤ 3) ∧ ∀ x ∈ [y1, y2, y3, y4, y5, y6], 0 ≤ x ∧ x ≤ 999999 from ⟨by omega, fun x hx => by simp only [List.mem_cons, List.not_mem_nil, or_false] at hx; omega⟩)
        clear hpar hE hE7 hEr HE r0 r1 r2 r3 r4 r5 r6 hy0 hy1 hy2 hy3 hy4 hy5 hy6
        go_wp2
        refine bodyPost_ret (v := .tuple #[.agg #[.int .i64 y0, .int .i64 y1, .int .i64 y2, .int .i64 y3, .int .i64 y4, .int .i64 y5, .int .i64 y6], .bool true]) (by simp [results, Tryz.results40, go_sem, *]) rfl ?_
        exact ⟨below7 HBB.out (Nat.le_refl _) _ _ _ _ _ _ _, .inr ⟨y0, y1, y2, y3, y4, y5, y6, HPAR.out, HR.out.1, HR.out.2, rfl⟩⟩
      have j0 : (0 : Int) ≤ (j : Int) := by omega
      have j1 : (j : Int) < (xs.length : Int) := by omega
      have cw9 := keepC HB9.out (show bw < w2.heap.size by omega) (HWK.out j hjl)
      obtain ⟨zj, hzj⟩ : ∃ z, z = TB (gs xs j) := ⟨_, rfl⟩
      have HZJ := Lib.hid hzj
      rw [← hzj] at cw9
      have hxlen : (gs xs j).length ≤ 4294967296 := by have := HML.out (j + 1); rw [gs_cons] at this; omega
      have hjK : j < (idxK (m : Int)).length := by rw [← HN.out]; exact hjl
      have hp7 := idx_lt hjK
      have cq := HCP2.out j hjl
      have HEV := Lib.hid (show evS (m : Int) (xs.map nmL) (j + 1) = (evS (m : Int) (xs.map nmL) j).set ((idxK (m : Int)).getD j 0) (nmL (gs xs j)) by rw [evS, gi_mapnm hjl])
      obtain ⟨p, hp⟩ : ∃ p, p = (idxK (m : Int)).getD j 0 := ⟨_, rfl⟩
      rw [← hp] at hp7 cq HEV
      have cx := (HE.out p hp7).1
      have fx := (HE.out p hp7).2
      have HBAD := Lib.hid (show nmL (gs xs j) < 0 → parE l = none from fun h => parE_bad HWE.out (badN_at hjl h))
      clear hzj hp hjK
      go_wp2_with fail
      refine (parseNumber_any (gs xs j) zj HZJ.out wi hxlen).mono ?_
      rintro e x2 ⟨hx2, hpn⟩
      subst hx2
      rcases hpn with ⟨hneg, rfl⟩ | ⟨hpos, rfl⟩
      · have HNO := Lib.hid (HBAD.out hneg)
        clear HBAD hneg
        go_wp2
        refine bodyPost_ret (v := .tuple #[EvZ, .bool false]) (by simp [results, EvZ, Tryz.results40, go_sem, *]) rfl ?_
        exact ⟨below7 HBB.out (Nat.le_refl _) _ _ _ _ _ _ _, .inl ⟨HNO.out, rfl⟩⟩
      have HP2 := Lib.hid (show ∀ i, i < j + 1 → 0 ≤ nmL (gs xs i) from fun i hi => by
        rcases Nat.lt_or_ge i j with h' | h'
        · exact HP.out i h'
        · obtain rfl : i = j := by omega
          exact hpos)
      obtain ⟨x, hx⟩ : ∃ x, x = nmL (gs xs j) := ⟨_, rfl⟩
      rw [← hx] at HEV ⊢
      have HE2 := Lib.hid (show ∀ i, i < 7 → (wi.setCell ⟨X, p, none⟩ (.int .i64 x)).cell? ⟨X, i, none⟩ = some (.int .i64 (gi (evS (m : Int) (xs.map nmL) (j + 1)) i)) ∧ (wi.setCell ⟨X, p, none⟩ (.int .i64 x)).frozen? ⟨X, i, none⟩ = false from fun i hi => by
        refine ⟨?_, setCell_fz (HE.out i hi).2⟩
        rw [setCell_at (HE.out i hi).1, HEV.out, gi_set7 (by rw [evS_len]; exact hp7)]
        split <;> rfl)
      have HB10 := Lib.hid (HB9.out.setCell (p := ⟨X, p, none⟩) hX2 (.int .i64 x))
      have HCP3 := Lib.hid (show ∀ j, j < xs.length → (wi.setCell ⟨X, p, none⟩ (.int .i64 x)).cell? ⟨gN, j, none⟩ = some (.pointer (some ⟨X, (idxK (m : Int)).getD j 0, none⟩)) from fun j hj => setCell_off hgX (HCP2.out j hj))
      clear HBAD hpos hx HEV
      go_wp2
      go_roundw
      case rel => exact ⟨j + 1, hjl, by go_num, HP2.out, HE2.out, HB10.out, HCP3.out, by simp [World.setCell]; omega⟩
      case measure => simp [intOf]; omega
def zev : List Int := [0, 0, 0, 0, 0, 0, 0]
theorem PePost.form {l : List UInt8} {w w' : World} {e : Ending} (h : PePost l w e w') : Below w.heap.size w w' ∧ ∃ (k a b c d f g : Int) (ok : Bool), e = .returned (.tuple #[.agg #[.int .i64 k, .int .i64 a, .int .i64 b, .int .i64 c, .int .i64 d, .int .i64 f, .int .i64 g], .bool ok]) ∧ [k, a, b, c, d, f, g] = (parE l).getD zev ∧ ok = (parE l).isSome ∧ (∀ x ∈ [k, a, b, c, d, f, g], 0 ≤ x ∧ x ≤ 999999) := by
  obtain ⟨hb, ⟨hn, rfl⟩ | ⟨k, a, b, c, d, f, g, hn, hk, hx, rfl⟩⟩ := h
  · exact ⟨hb, 0, 0, 0, 0, 0, 0, 0, false, rfl, by rw [hn]; rfl, by rw [hn]; rfl, by simp⟩
  · refine ⟨hb, k, a, b, c, d, f, g, true, rfl, by rw [hn]; rfl, by rw [hn]; rfl, fun x hx9 => ?_⟩
    rcases List.mem_cons.1 hx9 with rfl | h9
    · omega
    · exact hx x h9
end Go.Proofs.YtkgepklapglmdaaGreatDoor
