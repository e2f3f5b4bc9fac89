/-
  Lemmas and contracts of single functions of this program, used by the proofs of its laws: what each call returns and what becomes of memory. Conditions: the hypotheses of each theorem.
-/
import Derived.Test.YtkgepklapglmdaaGreatDoorDrw1
import Derived.Test.YtkgepklapglmdaaGreatDoorZa
import Derived.Test.YtkgepklapglmdaaGreatDoorLeafA
import Derived.Test.YtkgepklapglmdaaGreatDoorGPQ
import Derived.Test.YtkgepklapglmdaaGreatDoorGrdV
namespace Go.Proofs.YtkgepklapglmdaaGreatDoor
open Go.RowKit
attribute [local go_sem ↓] Go.wp_at_zero Go.wp_at_succ

theorem OwnI.grownK {w w' : World} {base e g : Nat} {v : Value} {xs : List Int} (h : OwnI w base e v xs) (hg : w.grownBy w' (some g)) (hlt : g < base) : OwnI w' base e v xs :=
  h.kept (Kept.of_grown hg (Nat.le_refl _) (.inl hlt))
theorem OwnR.grownK {w w' : World} {base s tS tI g : Nat} {v : Value} {xs : List (List Int)} (h : OwnR w base s tS tI v xs) (hg : w.grownBy w' (some g)) (hlt : g < base) (hs : s ≤ w.heap.size) : OwnR w' base s tS tI v xs :=
  h.kept (Kept.of_grown hg hs (.inl hlt))
theorem Rdr.grewK {base : Nat} {v u u' : Value} {W w1 : World} {B k g : Nat} (h : Rdr W B k g v) (hg : Grew base u u' W w1) (hlt : g < base) : Rdr w1 B k g v := by
  have h0 := h.lt
  exact h.kept (hg.below.block g hlt) fun j _ hj => hg.below.block j (by omega)
theorem grown_thenK {a b c : World} {B g : Nat} (h : a.grownBy b (some g)) (k : Below B b c) (hB : a.heap.size ≤ B) : a.grownBy c (some g) :=
  ⟨k.os.trans h.os, k.tape.trans h.tape, k.output.trans h.output, Nat.le_trans h.size k.size, fun i hi hn => (k.block i (by omega)).trans (h.block i hi hn)⟩
end Go.Proofs.YtkgepklapglmdaaGreatDoor

namespace Go.Proofs.YtkgepklapglmdaaGreatDoor
open Go.RowKit
attribute [local go_sem ↓] Go.wp_at_zero Go.wp_at_succ

theorem plc_nilW (y : Int) : plc [] y = -1 := rfl
def SwPost (B k g : Nat) (v : Value) (w : World) (e : Ending) (w' : World) : Prop := ∃ (p : Int) (u : Value) (xs : List Int) (k' : Nat), e = .returned (.tuple #[.int .i64 p, u]) ∧ 0 ≤ p ∧ p ≤ 100 ∧ OwnI w' w.heap.size 3 u xs ∧ 1 ≤ xs.length ∧ xs.length ≤ 4 ∧ (∀ x ∈ xs, 0 ≤ x ∧ x ≤ 1000) ∧ Rdr w' B k' g v ∧ k' ≤ k + 10 ∧ w.grownBy w' (some g)
set_option maxRecDepth 100000 in
set_option maxHeartbeats 4000000 in
theorem someWidths_any (B k g : Nat) (v : Value) (w : World) (h : Rdr w B k g v) (hk : k ≤ 900000) :
    Calls Tryz.prog 56 #[v] w fun e w' => SwPost B k g v w e w' := by
  have hg0 := h.lt
  go_enter Tryz.func56, Tryz.ntmps56
  go_wp2_with fail
  refine (one_lit B k g v [12, 20, 10, 24, 16, 7] w _ _ _ h (by omega) rfl rfl rfl (by simp) (by simp) (by unfold I64; simp)).mono ?_
  rintro e w1 ⟨p, rfl, hp, hr1, bg1⟩
  have hp0 : 7 ≤ p ∧ p ≤ 24 := by simp only [List.mem_cons, List.not_mem_nil, or_false] at hp; omega
  have hz1 : w.heap.size ≤ w1.heap.size := bg1.size
  obtain ⟨wa, hwa⟩ : ∃ wa, wa = w1.alloc (.cells #[] 3) := ⟨_, rfl⟩
  have b2 : Below w1.heap.size w1 wa := by rw [hwa]; exact (Below.refl _ _).alloc (Nat.le_refl _) _
  have HE0 := Lib.hid (show OwnI wa w.heap.size 3 (.slice (some ⟨w1.heap.size, 0, none⟩) 0 0) [] by rw [hwa]; exact (OwnI.empty w1 w1.heap.size 3 (Nat.le_refl _)).base hz1)
  have hr2 := hr1.below b2
  have HG2 := Lib.hid (grown_thenK bg1 b2 hz1)
  have HZa := Lib.hid (show wa.heap.size = w1.heap.size + 1 by rw [hwa]; simp)
  have HWA := Lib.hid hwa
  clear h hp hr1 bg1 b2 hwa
  go_wp2_with fail
  rw [← HWA.out]
  refine (one_lit B (k + 1) g v [3, 2, 4, 1] wa _ _ _ hr2 (by omega) rfl rfl HZa.out.symm (by simp) (by simp) (by unfold I64; simp)).mono ?_
  rintro e w2 ⟨n0, rfl, hn, hr3, bg3⟩
  have hn0 : 1 ≤ n0 ∧ n0 ≤ 4 := by simp only [List.mem_cons, List.not_mem_nil, or_false] at hn; omega
  obtain ⟨n0, rfl⟩ := Int.eq_ofNat_of_zero_le (show 0 ≤ n0 by omega)
  have HO0 := Lib.hid (HE0.out.grownK bg3 (by omega))
  have HG0 := Lib.hid (grown_trans HG2.out bg3)
  have HR0 := Lib.hid hr3
  clear hr2 hr3 bg3 hn HE0 HG2
  go_wp2
  go_loopw [5, 6, 7] (fun o n _ wr => ∃ (n' k' : Nat) (xs : List Int), n = .int .i64 n' ∧ n' ≤ 4 ∧ k' + n' ≤ k + 2 + 4 ∧ OwnI wr w.heap.size 3 o xs ∧ xs.length + n' ≤ 4 ∧ 1 ≤ xs.length + n' ∧ Hid (∀ x ∈ xs, 0 ≤ x ∧ x ≤ 1000) ∧ Hid (Rdr wr B k' g v) ∧ Hid (w.grownBy wr (some g))) (fun _ n _ _ => (intOf n).toNat)
  case atStart => exact ⟨n0, k + 2, [], rfl, by omega, by omega, HO0.out, by simp; omega, by simp; omega, (fun x hx => by cases hx), HR0.out, HG0.out⟩
  case round =>
    clear HO0 HG0 HR0 hn0
    obtain ⟨n, k1, xs, rfl, hn4, hkn, hown, hxl, hx1, HX, HR, HG⟩ := hrel
    have hfo := hown.form
    obtain ⟨A, c, rfl, hc, hm⟩ := hfo
    have HO := Lib.hid hown
    have hzr := HG.out.size
    clear hown
    by_cases hgo : 0 < n
    rotate_left
    · have hn2 : ¬ (0 : Int) < n := by omega
      have hn3 : ¬ 0 < n := hgo
      have hl1 : 1 ≤ xs.length := by omega
      have hl4 : xs.length ≤ 4 := by omega
      clear hgo hx1 hxl
      go_wp2
      go_ret2
      exact ⟨p, _, xs, k1, rfl, by omega, by omega, HO.out, hl1, hl4, HX.out, HR.out, by omega, HG.out⟩
    have hn1 : (n : Int) > 0 := by omega
    have hn2 : (0 : Int) < n := by omega
    have gp : IntKind.i64.wrap (p - 1) = p - 1 := IntWalk.i64_in _ (by omega)
    go_wp2_with fail
    refine (pick_any B k1 g v (p - 1) _ HR.out (by omega) (by omega)).mono ?_
    rintro e w3 ⟨y1, rfl, hy1, hr3, bo1⟩
    have y1r := hy1.rng (m := 23) (by omega) (by omega)
    have HR3 := Lib.hid hr3
    have HO3 := Lib.hid (HO.out.grownK (grown_only bo1) (by omega))
    have HG3 := Lib.hid (grown_trans HG.out (grown_only bo1))
    have hz3 := HG3.out.size
    clear hy1 hr3 bo1 HO HG HR
    have gy : IntKind.i64.wrap (2 + y1) = 2 + y1 := IntWalk.i64_in _ (by omega)
    go_wp2_with fail
    refine (placeIn_any _ _ _ xs (2 + y1) w3 HO3.out.ints).mono ?_
    rintro e w4 ⟨rfl, hw4⟩
    subst hw4
    obtain ⟨q, hq⟩ : ∃ q, q = plc xs (2 + y1) := ⟨_, rfl⟩
    rw [← hq]
    have HNE := Lib.hid (show ¬ q < 0 → 1 ≤ xs.length from fun h => by
      rcases xs with _ | ⟨x, t⟩
      · rw [plc_nilW] at hq; omega
      · simp)
    clear hq
    by_cases hq0 : q < 0
    · have hxl3 : xs.length ≤ 3 := by omega
      go_wp2_with (at_builtin; refine wpList_appendI SlI _ rfl (.tmp 28) (.tmp 30) rfl (2 + y1) w.heap.size _ xs rfl rfl HO3.out ⟨by omega, by omega⟩ (by omega) hz3 ?_; intro v' w6 ho6 hg6; have HO6 := Lib.hid ho6; have HR6 := Lib.hid (HR3.out.grewK hg6 (by omega)); have HG6 := Lib.hid (grown_thenK HG3.out hg6.below (by omega)); clear ho6 hg6)
      go_roundw
      case rel => exact ⟨n - 1, k1 + 1, xs ++ [2 + y1], by go_num, by omega, by omega, HO6.out, by rw [List.length_append, List.length_singleton]; omega, by rw [List.length_append, List.length_singleton]; omega, (fun x hx => by
          rcases List.mem_append.1 hx with hx | hx
          · exact HX.out x hx
          · rw [List.mem_singleton.1 hx]; omega), HR6.out, HG6.out⟩
      case measure => simp [intOf]; omega
    · have hne := HNE.out hq0
      go_wp2
      go_roundw
      case rel => exact ⟨n - 1, k1 + 1, xs, by go_num, by omega, by omega, HO3.out, by omega, by omega, HX.out, HR3.out, HG3.out⟩
      case measure => simp [intOf]; omega
def AwPost (B k g : Nat) (v : Value) (w : World) (e : Ending) (w' : World) : Prop := ∃ (p : Int) (u : Value) (xs : List Int) (k' : Nat), e = .returned (.tuple #[.int .i64 p, u]) ∧ I64 p ∧ OwnI w' w.heap.size 3 u xs ∧ xs.length ≤ 5 ∧ Rdr w' B k' g v ∧ k' ≤ k + 20 ∧ w.grownBy w' (some g)
set_option maxRecDepth 100000 in
set_option maxHeartbeats 4000000 in
theorem anyWidths_any (B k g : Nat) (v : Value) (w : World) (h : Rdr w B k g v) (hk : k ≤ 800000) :
    Calls Tryz.prog 27 #[v] w fun e w' => AwPost B k g v w e w' := by
  have hg0 := h.lt
  go_enter Tryz.func27, Tryz.ntmps27
  go_wp2_with fail
  refine (someWidths_any B k g v w h (by omega)).mono ?_
  rintro e w1 ⟨p, u, xs, k1, rfl, hp0, hp1, ho1, hl1, hl4, hx1, hr1, hk1, bg1⟩
  have hfo := ho1.form
  obtain ⟨A, c, rfl, hc, hm⟩ := hfo
  have HO1 := Lib.hid ho1
  have HG1 := Lib.hid bg1
  have HR1 := Lib.hid hr1
  have hz1 : w.heap.size ≤ w1.heap.size := bg1.size
  clear h ho1 bg1 hr1 hx1
  go_wp2_with fail
  refine (pick_any B k1 g v 20 _ HR1.out (by omega) (by omega)).mono ?_
  rintro e w3 ⟨y, rfl, hy, hr3, bo1⟩
  have HR3 := Lib.hid hr3
  have HO3 := Lib.hid (HO1.out.grownK (grown_only bo1) (by omega))
  have HG3 := Lib.hid (grown_trans HG1.out (grown_only bo1))
  have hz3 : w.heap.size ≤ w3.heap.size := HG3.out.size
  clear hy hr3 bo1 HO1 HG1 HR1
  obtain ⟨e0, he0⟩ : ∃ e, (y == 0) = e := ⟨_, rfl⟩
  cases e0
  rotate_left
  · obtain ⟨gb, hA, _, _, cx, _, _⟩ := HO3.out.at_ (i := 0) (by omega)
    subst hA
    obtain ⟨x0, hx0⟩ : ∃ x, x = gi xs 0 := ⟨_, rfl⟩
    rw [← hx0] at cx
    have HI := Lib.hid (show I64 x0 by rw [hx0, gi_eq (by omega)]; exact HO3.out.2 _ (List.getElem_mem _))
    have gp : IntKind.i64.wrap (p + 1) = p + 1 := IntWalk.i64_in _ (by omega)
    have i1 : (0 : Int) < (xs.length : Int) := by omega
    clear hx0
    go_wp2_with fail
    refine (one_lit B (k1 + 1) g v [0, p + 1, x0] w3 _ _ _ HR3.out (by omega) rfl rfl rfl (by simp) (by simp) (fun z hz => by
      rcases List.mem_cons.1 hz with rfl | hz
      · exact ⟨by omega, by omega⟩
      · rcases List.mem_cons.1 hz with rfl | hz
        · exact ⟨by omega, by omega⟩
        · rw [List.mem_singleton.1 hz]; exact HI.out)).mono ?_
    rintro e w4 ⟨z, rfl, hz, hr4, bg4⟩
    have HZ := Lib.hid (show I64 z from by
      rcases List.mem_cons.1 hz with rfl | hz
      · exact ⟨by omega, by omega⟩
      · rcases List.mem_cons.1 hz with rfl | hz
        · exact ⟨by omega, by omega⟩
        · rw [List.mem_singleton.1 hz]; exact HI.out)
    have HR4 := Lib.hid hr4
    have HO4 := Lib.hid (HO3.out.grownK bg4 (by omega))
    have HG4 := Lib.hid (grown_trans HG3.out bg4)
    have hz4 : w.heap.size ≤ w4.heap.size := HG4.out.size
    clear hz hr4 bg4 HR3 HO3 HG3 cx
    go_wp2_with (at_builtin; refine wpList_appendI SlI _ rfl (.tmp 15) (.tmp 24) rfl z w.heap.size _ xs rfl rfl HO4.out HZ.out (by omega) hz4 ?_; intro v' w6 ho6 hg6; have HO6 := Lib.hid ho6; have HR6 := Lib.hid (HR4.out.grewK hg6 (by omega)); have HG6 := Lib.hid (grown_thenK HG4.out hg6.below (by omega)); clear ho6 hg6)
    go_ret2
    exact ⟨p, _, xs ++ [z], k1 + 1 + 1, rfl, ⟨by omega, by omega⟩, HO6.out, by rw [List.length_append, List.length_singleton]; omega, HR6.out, by omega, HG6.out⟩
  obtain ⟨e1, he1⟩ : ∃ e, (y == 1) = e := ⟨_, rfl⟩
  cases e1
  rotate_left
  · go_wp2_with fail
    refine (one_lit B (k1 + 1) g v [0, 61, 30] w3 _ _ _ HR3.out (by omega) rfl rfl rfl (by simp) (by simp) (by unfold I64; simp)).mono ?_
    rintro e w4 ⟨z, rfl, hz, hr4, bg4⟩
    have hzr : 0 ≤ z ∧ z ≤ 61 := by simp only [List.mem_cons, List.not_mem_nil, or_false] at hz; omega
    have HR4 := Lib.hid hr4
    have HO4 := Lib.hid (HO3.out.grownK bg4 (by omega))
    have HG4 := Lib.hid (grown_trans HG3.out bg4)
    clear hz hr4 bg4 HR3 HO3 HG3
    go_wp2
    go_ret2
    exact ⟨z, _, xs, k1 + 1 + 1, rfl, ⟨by omega, by omega⟩, HO4.out, by omega, HR4.out, by omega, HG4.out⟩
  obtain ⟨e2, he2⟩ : ∃ e, (y == 2) = e := ⟨_, rfl⟩
  cases e2
  · go_wp2
    go_ret2
    exact ⟨p, _, xs, k1 + 1, rfl, ⟨by omega, by omega⟩, HO3.out, by omega, HR3.out, by omega, HG3.out⟩
  · go_wp2
    go_ret2
    exact ⟨p, _, [], k1 + 1, rfl, ⟨by omega, by omega⟩, OwnI.nil _ _ _, by simp, HR3.out, by omega, HG3.out⟩
def WnPost (B k g : Nat) (v : Value) (w : World) (e : Ending) (w' : World) : Prop := ∃ (u : Value) (xs : List Int) (k' : Nat), e = .returned u ∧ OwnI w' w.heap.size 3 u xs ∧ Rdr w' B k' g v ∧ k' ≤ k + 20 ∧ w.grownBy w' (some g)
set_option maxRecDepth 100000 in
set_option maxHeartbeats 4000000 in
theorem someWants_any (B k g n c : Nat) (v : Value) (A : Option Addr) (m : Int) (w : World) (h : Rdr w B k g v) (hk : k ≤ 700000) (hn : n ≤ 5) (hm0 : 0 ≤ m ∧ m ≤ 100) :
    Calls Tryz.prog 28 #[v, .slice A n c, .int .i64 m] w fun e w' => WnPost B k g v w e w' := by
  have hg0 := h.lt
  have b1 : Below w.heap.size w (w.alloc (.cells #[] 3)) := (Below.refl _ _).alloc (Nat.le_refl _) _
  have HE0 := Lib.hid (OwnI.empty w w.heap.size 3 (Nat.le_refl _))
  have HR0 := Lib.hid (h.below b1)
  have HG0 := Lib.hid (grown_below b1 (some g))
  clear h b1
  go_enter Tryz.func28, Tryz.ntmps28
  go_wp2
  go_loopw [2, 7, 8, 9] (fun mo o i _ wr => ∃ (j k' : Nat) (q : Int) (xs : List Int), j ≤ n ∧ i = .int .i64 j ∧ mo = .int .i64 q ∧ 0 ≤ q ∧ q ≤ 100 ∧ k' ≤ k + 2 * j ∧ xs.length = j ∧ Hid (OwnI wr w.heap.size 3 o xs) ∧ Hid (Rdr wr B k' g v) ∧ Hid (w.grownBy wr (some g))) (fun _ _ i _ _ => n - (intOf i).toNat)
  case atStart => exact ⟨0, k, m, [], Nat.zero_le _, rfl, rfl, hm0.1, hm0.2, by omega, rfl, HE0.out, HR0.out, HG0.out⟩
  case round =>
    clear HE0 HR0 HG0
    obtain ⟨j, k1, q, xs, hj, rfl, rfl, hq0, hq1, hk1, hxl, HO, HR, HG⟩ := hrel
    have hfo := HO.out.form
    obtain ⟨Ao, co, rfl, hco, hco2⟩ := hfo
    rw [hxl] at HO hco ⊢
    have HXL := Lib.hid hxl
    clear hxl
    have hzr : w.heap.size ≤ wr.heap.size := HG.out.size
    by_cases hlt : j < n
    · have hj1 : (j : Int) < (n : Int) := by omega
      go_wp2_with fail
      refine (pick_any B k1 g v 6 _ HR.out (by omega) (by omega)).mono ?_
      rintro e w3 ⟨y, rfl, hy, hr3, bo1⟩
      have hyr := hy.rng (m := 6) (by omega) (by omega)
      have HR3 := Lib.hid hr3
      have HO3 := Lib.hid (HO.out.grownK (grown_only bo1) (by omega))
      have HG3 := Lib.hid (grown_trans HG.out (grown_only bo1))
      clear hy hr3 bo1 HO HG HR
      go_wp2_with fail
      refine (one_lit B (k1 + 1) g v [2, 1, 3, 0, y] w3 _ _ _ HR3.out (by omega) rfl rfl rfl (by simp) (by simp) (fun z hz => by simp only [List.mem_cons, List.not_mem_nil, or_false] at hz; exact ⟨by omega, by omega⟩)).mono ?_
      rintro e w4 ⟨z, rfl, hz, hr4, bg4⟩
      have hzr2 : 0 ≤ z ∧ z ≤ 5 := by simp only [List.mem_cons, List.not_mem_nil, or_false] at hz; omega
      have HR4 := Lib.hid hr4
      have HO4 := Lib.hid (HO3.out.grownK bg4 (by omega))
      have HG4 := Lib.hid (grown_trans HG3.out bg4)
      have hz4 : w.heap.size ≤ w4.heap.size := HG4.out.size
      clear hz hr4 bg4 HR3 HO3 HG3
      obtain ⟨t, ht⟩ : ∃ t, t = min q z := ⟨_, rfl⟩
      have hmin : min q z = t := ht.symm
      have htr : 0 ≤ t ∧ t ≤ q := by omega
      clear ht
      have gq : IntKind.i64.wrap (q - t) = q - t := IntWalk.i64_in _ (by omega)
      go_wp2_with (at_builtin; refine wpList_appendI SlI _ rfl (.tmp 27) (.tmp 29) rfl t w.heap.size _ xs rfl rfl HO4.out ⟨by omega, by omega⟩ (by have := HXL.out; omega) hz4 ?_; intro v' w6 ho6 hg6; have HO6 := Lib.hid ho6; have HR6 := Lib.hid (HR4.out.grewK hg6 (by omega)); have HG6 := Lib.hid (grown_thenK HG4.out hg6.below (by omega)); clear ho6 hg6)
      go_roundw
      case rel => exact ⟨j + 1, k1 + 1 + 1, q - t, xs ++ [t], hlt, by go_num, rfl, by omega, by omega, by omega, by rw [List.length_append, List.length_singleton, HXL.out], HO6.out, HR6.out, HG6.out⟩
      case measure => simp [intOf]; omega
    have hnj : ¬ (j : Int) < (n : Int) := by omega
    by_cases hx0 : j = 0
    · have hx1 : ¬ (0 : Int) < (j : Int) := by omega
      have hx2 : ¬ 0 < j := by omega
      have Hx0 := Lib.hid hx0
      clear hx0
      go_wp2
      go_ret
      exact ⟨_, xs, k1, rfl, HO.out, HR.out, by omega, HG.out⟩
    have hx1 : (0 : Int) < (j : Int) := by omega
    have hx2 : 0 < j := by omega
    clear hx0
    go_wp2_with fail
    refine (pick_any B k1 g v 16 _ HR.out (by omega) (by omega)).mono ?_
    rintro e w3 ⟨y, rfl, hy, hr3, bo1⟩
    have HR3 := Lib.hid hr3
    have HO3 := Lib.hid (HO.out.grownK (grown_only bo1) (by omega))
    have HG3 := Lib.hid (grown_trans HG.out (grown_only bo1))
    have hz3 : w.heap.size ≤ w3.heap.size := HG3.out.size
    clear hy hr3 bo1 HO HG HR
    obtain ⟨e0, he0⟩ : ∃ e, (y == 0) = e := ⟨_, rfl⟩
    cases e0
    · go_wp2
      go_ret
      exact ⟨_, xs, k1 + 1, rfl, HO3.out, HR3.out, by omega, HG3.out⟩
    go_wp2_with fail
    refine (one_lit B (k1 + 1) g v [-1, 21, 20] w3 _ _ _ HR3.out (by omega) rfl rfl rfl (by simp) (by simp) (by unfold I64; simp)).mono ?_
    rintro e w4 ⟨z, rfl, hz, hr4, bg4⟩
    have hzr2 : -1 ≤ z ∧ z ≤ 21 := by simp only [List.mem_cons, List.not_mem_nil, or_false] at hz; omega
    have HR4 := Lib.hid hr4
    have HO4 := Lib.hid (HO3.out.grownK bg4 (by omega))
    have HG4 := Lib.hid (grown_trans HG3.out bg4)
    clear hz hr4 bg4 HR3 HO3 HG3
    obtain ⟨gb, hA, hgb1, hgb2, cx, fx, hst⟩ := HO4.out.at_ (i := 0) (by have := HXL.out; omega)
    subst hA
    have HST := Lib.hid (hst z ⟨by omega, by omega⟩)
    have HRS := Lib.hid (HR4.out.kept (w' := w4.setCell ⟨gb, 0, none⟩ (.int .i64 z)) (Below.heap_setCell _ _ _ _ (by have := HR4.out.lt; show g ≠ gb; omega)) fun j' _ hj' => Below.heap_setCell _ _ _ _ (by have := HR4.out.lt; show j' ≠ gb; omega))
    clear hst
    go_wp2
    go_ret
    exact ⟨_, xs.set 0 z, k1 + 1 + 1, rfl, HST.out, HRS.out, by omega, grown_setCell HG4.out (by show w.heap.size ≤ gb; omega) _⟩
end Go.Proofs.YtkgepklapglmdaaGreatDoor

namespace Go.Proofs.YtkgepklapglmdaaGreatDoor
open Go.RowKit

/-! what the sets are: valid patterns, their sum is what is wanted, and what a later set has did not fit into an earlier one -/
end Go.Proofs.YtkgepklapglmdaaGreatDoor

namespace Go.Proofs.YtkgepklapglmdaaGreatDoor
open Go.RowKit
attribute [local go_sem ↓] Go.wp_at_zero Go.wp_at_succ

end Go.Proofs.YtkgepklapglmdaaGreatDoor

namespace Go.Proofs.YtkgepklapglmdaaGreatDoor
open Go.RowKit
attribute [local go_sem ↓] Go.wp_at_zero Go.wp_at_succ

end Go.Proofs.YtkgepklapglmdaaGreatDoor
