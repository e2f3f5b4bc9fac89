/-
  Lemmas and contracts of single functions of this program, used by the proofs of its laws: what each call returns and what becomes of memory. Conditions: the hypotheses of each theorem.
-/
import Derived.Test.YteckjiaaikdghaaDrawR
import Derived.Test.YteckjiaaikdghaaGroR
import Derived.Test.YteckjiaaikdghaaLeafA
import Derived.Test.YteckjiaaikdghaaGrdQ
import Derived.Test.YteckjiaaikdghaaGrdV
namespace Go.Proofs.Yteckjiaaikdghaa
open Go.RowKit
attribute [local go_sem ↓] Go.wp_at_zero Go.wp_at_succ

theorem OwnI.grownK {w w' : World} {base e g : Nat} {v : Value} {xs : List Int} (h : OwnI w base e v xs) (hg : w.grownBy w' (some g)) (hlt : g < base) : OwnI w' base e v xs :=
  h.kept (Kept.of_grown hg (Nat.le_refl _) (.inl hlt))
theorem OwnR.grownK {w w' : World} {base s tS tI g : Nat} {v : Value} {xs : List (List Int)} (h : OwnR w base s tS tI v xs) (hg : w.grownBy w' (some g)) (hlt : g < base) (hs : s ≤ w.heap.size) : OwnR w' base s tS tI v xs :=
  h.kept (Kept.of_grown hg hs (.inl hlt))
theorem Rdr.grewK {base : Nat} {v u u' : Value} {W w1 : World} {B k g : Nat} (h : Rdr W B k g v) (hg : Grew base u u' W w1) (hlt : g < base) : Rdr w1 B k g v := by
  have h0 := h.lt
  exact h.kept (hg.below.block g hlt) fun j _ hj => hg.below.block j (by omega)
theorem grown_thenK {a b c : World} {B g : Nat} (h : a.grownBy b (some g)) (k : Below B b c) (hB : a.heap.size ≤ B) : a.grownBy c (some g) :=
  ⟨k.os.trans h.os, k.tape.trans h.tape, k.output.trans h.output, Nat.le_trans h.size k.size, fun i hi hn => (k.block i (by omega)).trans (h.block i hi hn)⟩
end Go.Proofs.Yteckjiaaikdghaa

namespace Go.Proofs.Yteckjiaaikdghaa
open Go.RowKit
attribute [local go_sem ↓] Go.wp_at_zero Go.wp_at_succ

theorem plc_nilW (y : Int) : plc [] y = -1 := rfl
def SwPost (B k g : Nat) (v : Value) (w : World) (e : Ending) (w' : World) : Prop := ∃ (p : Int) (u : Value) (xs : List Int) (k' : Nat), e = .returned (.tuple #[.int .i64 p, u]) ∧ 0 ≤ p ∧ p ≤ 100 ∧ OwnI w' w.heap.size 3 u xs ∧ 1 ≤ xs.length ∧ xs.length ≤ 4 ∧ (∀ x ∈ xs, 0 ≤ x ∧ x ≤ 1000) ∧ Rdr w' B k' g v ∧ k' ≤ k + 10 ∧ w.grownBy w' (some g)
set_option maxRecDepth 100000 in
set_option maxHeartbeats 4000000 in
theorem someWidths_any (B k g : Nat) (v : Value) (w : World) (h : Rdr w B k g v) (hk : k ≤ 900000) :
    Calls Try.prog 107 #[v] w fun e w' => SwPost B k g v w e w' := by
  have hg0 := h.lt
  go_enter Try.func107, Try.ntmps107
  go_wp2_with fail
  refine (one_lit B k g v [12, 20, 10, 24, 16, 7] w _ _ _ h (by omega) rfl rfl rfl (by simp) (by simp) (by unfold I64; simp)).mono ?_
  rintro e w1 ⟨p, rfl, hp, hr1, bg1⟩
  have hp0 : 7 ≤ p ∧ p ≤ 24 := by simp only [List.mem_cons, List.not_mem_nil, or_false] at hp; omega
  have hz1 : w.heap.size ≤ w1.heap.size := bg1.size
  obtain ⟨wa, hwa⟩ : ∃ wa, wa = w1.alloc (.cells #[] 3) := ⟨_, rfl⟩
  have b2 : Below w1.heap.size w1 wa := by rw [hwa]; exact (Below.refl _ _).alloc (Nat.le_refl _) _
  have HE0 := Lib.hid (show OwnI wa w.heap.size 3 (.slice (some ⟨w1.heap.size, 0, none⟩) 0 0) [] by rw [hwa]; exact (OwnI.empty w1 w1.heap.size 3 (Nat.le_refl _)).base hz1)
  have hr2 := hr1.below b2
  have HG2 := Lib.hid (grown_thenK bg1 b2 hz1)
  have HZa := Lib.hid (show wa.heap.size = w1.heap.size + 1 by rw [hwa]; simp)
  have HWA := Lib.hid hwa
  clear h hp hr1 bg1 b2 hwa
  go_wp2_with fail
  rw [← HWA.out]
  refine (one_lit B (k + 1) g v [3, 2, 4, 1] wa _ _ _ hr2 (by omega) rfl rfl HZa.out.symm (by simp) (by simp) (by unfold I64; simp)).mono ?_
  rintro e w2 ⟨n0, rfl, hn, hr3, bg3⟩
  have hn0 : 1 ≤ n0 ∧ n0 ≤ 4 := by simp only [List.mem_cons, List.not_mem_nil, or_false] at hn; omega
  obtain ⟨n0, rfl⟩ := Int.eq_ofNat_of_zero_le (show 0 ≤ n0 by omega)
  have HO0 := Lib.hid (HE0.out.grownK bg3 (by omega))
  have HG0 := Lib.hid (grown_trans HG2.out bg3)
  have HR0 := Lib.hid hr3
  clear hr2 hr3 bg3 hn HE0 HG2
  go_wp2
  go_loopw [5, 6, 7] (fun o n _ wr => ∃ (n' k' : Nat) (xs : List Int), n = .int .i64 n' ∧ n' ≤ 4 ∧ k' + n' ≤ k + 2 + 4 ∧ OwnI wr w.heap.size 3 o xs ∧ xs.length + n' ≤ 4 ∧ 1 ≤ xs.length + n' ∧ Hid (∀ x ∈ xs, 0 ≤ x ∧ x ≤ 1000) ∧ Hid (Rdr wr B k' g v) ∧ Hid (w.grownBy wr (some g))) (fun _ n _ _ => (intOf n).toNat)
  case atStart => exact ⟨n0, k + 2, [], rfl, by omega, by omega, HO0.out, by simp; omega, by simp; omega, (fun x hx => by cases hx), HR0.out, HG0.out⟩
  case round =>
    clear HO0 HG0 HR0 hn0
    obtain ⟨n, k1, xs, rfl, hn4, hkn, hown, hxl, hx1, HX, HR, HG⟩ := hrel
    have hfo := hown.form
    obtain ⟨A, c, rfl, hc, hm⟩ := hfo
    have HO := Lib.hid hown
    have hzr := HG.out.size
    clear hown
    by_cases hgo : 0 < n
    rotate_left
    · have hn2 : ¬ (0 : Int) < n := by omega
      have hn3 : ¬ 0 < n := hgo
      have hl1 : 1 ≤ xs.length := by omega
      have hl4 : xs.length ≤ 4 := by omega
      clear hgo hx1 hxl
      go_wp2
      go_ret2
      exact ⟨p, _, xs, k1, rfl, by omega, by omega, HO.out, hl1, hl4, HX.out, HR.out, by omega, HG.out⟩
    have hn1 : (n : Int) > 0 := by omega
    have hn2 : (0 : Int) < n := by omega
    have gp : IntKind.i64.wrap (p - 1) = p - 1 := IntWalk.i64_in _ (by omega)
    go_wp2_with fail
    refine (pick_any B k1 g v (p - 1) _ HR.out (by omega) (by omega)).mono ?_
    rintro e w3 ⟨y1, rfl, hy1, hr3, bo1⟩
    have y1r := hy1.rng (m := 23) (by omega) (by omega)
    have HR3 := Lib.hid hr3
    have HO3 := Lib.hid (HO.out.grownK (grown_only bo1) (by omega))
    have HG3 := Lib.hid (grown_trans HG.out (grown_only bo1))
    have hz3 := HG3.out.size
    clear hy1 hr3 bo1 HO HG HR
    have gy : IntKind.i64.wrap (2 + y1) = 2 + y1 := IntWalk.i64_in _ (by omega)
    go_wp2_with fail
    refine (placeIn_any _ _ _ xs (2 + y1) w3 HO3.out.ints).mono ?_
    rintro e w4 ⟨rfl, hw4⟩
    subst hw4
    obtain ⟨q, hq⟩ : ∃ q, q = plc xs (2 + y1) := ⟨_, rfl⟩
    rw [← hq]
    have HNE := Lib.hid (show ¬ q < 0 → 1 ≤ xs.length from fun h => by
      rcases xs with _ | ⟨x, t⟩
      · rw [plc_nilW] at hq; omega
      · simp)
    clear hq
    by_cases hq0 : q < 0
    · have hxl3 : xs.length ≤ 3 := by omega
      go_wp2_with (at_builtin; refine wpList_appendI SlI _ rfl (.tmp 28) (.tmp 30) rfl (2 + y1) w.heap.size _ xs rfl rfl HO3.out ⟨by omega, by omega⟩ (by omega) hz3 ?_; intro v' w6 ho6 hg6; have HO6 := Lib.hid ho6; have HR6 := Lib.hid (HR3.out.grewK hg6 (by omega)); have HG6 := Lib.hid (grown_thenK HG3.out hg6.below (by omega)); clear ho6 hg6)
      go_roundw
      case rel => exact ⟨n - 1, k1 + 1, xs ++ [2 + y1], by go_num, by omega, by omega, HO6.out, by rw [List.length_append, List.length_singleton]; omega, by rw [List.length_append, List.length_singleton]; omega, (fun x hx => by
          rcases List.mem_append.1 hx with hx | hx
          · exact HX.out x hx
          · rw [List.mem_singleton.1 hx]; omega), HR6.out, HG6.out⟩
      case measure => simp [intOf]; omega
    · have hne := HNE.out hq0
      go_wp2
      go_roundw
      case rel => exact ⟨n - 1, k1 + 1, xs, by go_num, by omega, by omega, HO3.out, by omega, by omega, HX.out, HR3.out, HG3.out⟩
      case measure => simp [intOf]; omega
def AwPost (B k g : Nat) (v : Value) (w : World) (e : Ending) (w' : World) : Prop := ∃ (p : Int) (u : Value) (xs : List Int) (k' : Nat), e = .returned (.tuple #[.int .i64 p, u]) ∧ I64 p ∧ OwnI w' w.heap.size 3 u xs ∧ xs.length ≤ 5 ∧ Rdr w' B k' g v ∧ k' ≤ k + 20 ∧ w.grownBy w' (some g)
set_option maxRecDepth 100000 in
set_option maxHeartbeats 4000000 in
theorem anyWidths_any (B k g : Nat) (v : Value) (w : World) (h : Rdr w B k g v) (hk : k ≤ 800000) :
    Calls Try.prog 75 #[v] w fun e w' => AwPost B k g v w e w' := by
  have hg0 := h.lt
  go_enter Try.func75, Try.ntmps75
  go_wp2_with fail
  refine (someWidths_any B k g v w h (by omega)).mono ?_
  rintro e w1 ⟨p, u, xs, k1, rfl, hp0, hp1, ho1, hl1, hl4, hx1, hr1, hk1, bg1⟩
  have hfo := ho1.form
  obtain ⟨A, c, rfl, hc, hm⟩ := hfo
  have HO1 := Lib.hid ho1
  have HG1 := Lib.hid bg1
  have HR1 := Lib.hid hr1
  have hz1 : w.heap.size ≤ w1.heap.size := bg1.size
  clear h ho1 bg1 hr1 hx1
  go_wp2_with fail
  refine (pick_any B k1 g v 20 _ HR1.out (by omega) (by omega)).mono ?_
  rintro e w3 ⟨y, rfl, hy, hr3, bo1⟩
  have HR3 := Lib.hid hr3
  have HO3 := Lib.hid (HO1.out.grownK (grown_only bo1) (by omega))
  have HG3 := Lib.hid (grown_trans HG1.out (grown_only bo1))
  have hz3 : w.heap.size ≤ w3.heap.size := HG3.out.size
  clear hy hr3 bo1 HO1 HG1 HR1
  obtain ⟨e0, he0⟩ : ∃ e, (y == 0) = e := ⟨_, rfl⟩
  cases e0
  rotate_left
  · obtain ⟨gb, hA, _, _, cx, _, _⟩ := HO3.out.at_ (i := 0) (by omega)
    subst hA
    obtain ⟨x0, hx0⟩ : ∃ x, x = gi xs 0 := ⟨_, rfl⟩
    rw [← hx0] at cx
    have HI := Lib.hid (show I64 x0 by rw [hx0, gi_eq (by omega)]; exact HO3.out.2 _ (List.getElem_mem _))
    have gp : IntKind.i64.wrap (p + 1) = p + 1 := IntWalk.i64_in _ (by omega)
    have i1 : (0 : Int) < (xs.length : Int) := by omega
    clear hx0
    go_wp2_with fail
    refine (one_lit B (k1 + 1) g v [0, p + 1, x0] w3 _ _ _ HR3.out (by omega) rfl rfl rfl (by simp) (by simp) (fun z hz => by
      rcases List.mem_cons.1 hz with rfl | hz
      · exact ⟨by omega, by omega⟩
      · rcases List.mem_cons.1 hz with rfl | hz
        · exact ⟨by omega, by omega⟩
        · rw [List.mem_singleton.1 hz]; exact HI.out)).mono ?_
    rintro e w4 ⟨z, rfl, hz, hr4, bg4⟩
    have HZ := Lib.hid (show I64 z from by
      rcases List.mem_cons.1 hz with rfl | hz
      · exact ⟨by omega, by omega⟩
      · rcases List.mem_cons.1 hz with rfl | hz
        · exact ⟨by omega, by omega⟩
        · rw [List.mem_singleton.1 hz]; exact HI.out)
    have HR4 := Lib.hid hr4
    have HO4 := Lib.hid (HO3.out.grownK bg4 (by omega))
    have HG4 := Lib.hid (grown_trans HG3.out bg4)
    have hz4 : w.heap.size ≤ w4.heap.size := HG4.out.size
    clear hz hr4 bg4 HR3 HO3 HG3 cx
    go_wp2_with (at_builtin; refine wpList_appendI SlI _ rfl (.tmp 15) (.tmp 24) rfl z w.heap.size _ xs rfl rfl HO4.out HZ.out (by omega) hz4 ?_; intro v' w6 ho6 hg6; have HO6 := Lib.hid ho6; have HR6 := Lib.hid (HR4.out.grewK hg6 (by omega)); have HG6 := Lib.hid (grown_thenK HG4.out hg6.below (by omega)); clear ho6 hg6)
    go_ret2
    exact ⟨p, _, xs ++ [z], k1 + 1 + 1, rfl, ⟨by omega, by omega⟩, HO6.out, by rw [List.length_append, List.length_singleton]; omega, HR6.out, by omega, HG6.out⟩
  obtain ⟨e1, he1⟩ : ∃ e, (y == 1) = e := ⟨_, rfl⟩
  cases e1
  rotate_left
  · go_wp2_with fail
    refine (one_lit B (k1 + 1) g v [0, 61, 30] w3 _ _ _ HR3.out (by omega) rfl rfl rfl (by simp) (by simp) (by unfold I64; simp)).mono ?_
    rintro e w4 ⟨z, rfl, hz, hr4, bg4⟩
    have hzr : 0 ≤ z ∧ z ≤ 61 := by simp only [List.mem_cons, List.not_mem_nil, or_false] at hz; omega
    have HR4 := Lib.hid hr4
    have HO4 := Lib.hid (HO3.out.grownK bg4 (by omega))
    have HG4 := Lib.hid (grown_trans HG3.out bg4)
    clear hz hr4 bg4 HR3 HO3 HG3
    go_wp2
    go_ret2
    exact ⟨z, _, xs, k1 + 1 + 1, rfl, ⟨by omega, by omega⟩, HO4.out, by omega, HR4.out, by omega, HG4.out⟩
  obtain ⟨e2, he2⟩ : ∃ e, (y == 2) = e := ⟨_, rfl⟩
  cases e2
  · go_wp2
    go_ret2
    exact ⟨p, _, xs, k1 + 1, rfl, ⟨by omega, by omega⟩, HO3.out, by omega, HR3.out, by omega, HG3.out⟩
  · go_wp2
    go_ret2
    exact ⟨p, _, [], k1 + 1, rfl, ⟨by omega, by omega⟩, OwnI.nil _ _ _, by simp, HR3.out, by omega, HG3.out⟩
def WnPost (B k g : Nat) (v : Value) (w : World) (e : Ending) (w' : World) : Prop := ∃ (u : Value) (xs : List Int) (k' : Nat), e = .returned u ∧ OwnI w' w.heap.size 3 u xs ∧ Rdr w' B k' g v ∧ k' ≤ k + 20 ∧ w.grownBy w' (some g)
set_option maxRecDepth 100000 in
set_option maxHeartbeats 4000000 in
theorem someWants_any (B k g n c : Nat) (v : Value) (A : Option Addr) (m : Int) (w : World) (h : Rdr w B k g v) (hk : k ≤ 700000) (hn : n ≤ 5) (hm0 : 0 ≤ m ∧ m ≤ 100) :
    Calls Try.prog 76 #[v, .slice A n c, .int .i64 m] w fun e w' => WnPost B k g v w e w' := by
  have hg0 := h.lt
  have b1 : Below w.heap.size w (w.alloc (.cells #[] 3)) := (Below.refl _ _).alloc (Nat.le_refl _) _
  have HE0 := Lib.hid (OwnI.empty w w.heap.size 3 (Nat.le_refl _))
  have HR0 := Lib.hid (h.below b1)
  have HG0 := Lib.hid (grown_below b1 (some g))
  clear h b1
  go_enter Try.func76, Try.ntmps76
  go_wp2
  go_loopw [2, 7, 8, 9] (fun mo o i _ wr => ∃ (j k' : Nat) (q : Int) (xs : List Int), j ≤ n ∧ i = .int .i64 j ∧ mo = .int .i64 q ∧ 0 ≤ q ∧ q ≤ 100 ∧ k' ≤ k + 2 * j ∧ xs.length = j ∧ Hid (OwnI wr w.heap.size 3 o xs) ∧ Hid (Rdr wr B k' g v) ∧ Hid (w.grownBy wr (some g))) (fun _ _ i _ _ => n - (intOf i).toNat)
  case atStart => exact ⟨0, k, m, [], Nat.zero_le _, rfl, rfl, hm0.1, hm0.2, by omega, rfl, HE0.out, HR0.out, HG0.out⟩
  case round =>
    clear HE0 HR0 HG0
    obtain ⟨j, k1, q, xs, hj, rfl, rfl, hq0, hq1, hk1, hxl, HO, HR, HG⟩ := hrel
    have hfo := HO.out.form
    obtain ⟨Ao, co, rfl, hco, hco2⟩ := hfo
    rw [hxl] at HO hco ⊢
    have HXL := Lib.hid hxl
    clear hxl
    have hzr : w.heap.size ≤ wr.heap.size := HG.out.size
    by_cases hlt : j < n
    · have hj1 : (j : Int) < (n : Int) := by omega
      go_wp2_with fail
      refine (pick_any B k1 g v 6 _ HR.out (by omega) (by omega)).mono ?_
      rintro e w3 ⟨y, rfl, hy, hr3, bo1⟩
      have hyr := hy.rng (m := 6) (by omega) (by omega)
      have HR3 := Lib.hid hr3
      have HO3 := Lib.hid (HO.out.grownK (grown_only bo1) (by omega))
      have HG3 := Lib.hid (grown_trans HG.out (grown_only bo1))
      clear hy hr3 bo1 HO HG HR
      go_wp2_with fail
      refine (one_lit B (k1 + 1) g v [2, 1, 3, 0, y] w3 _ _ _ HR3.out (by omega) rfl rfl rfl (by simp) (by simp) (fun z hz => by simp only [List.mem_cons, List.not_mem_nil, or_false] at hz; exact ⟨by omega, by omega⟩)).mono ?_
      rintro e w4 ⟨z, rfl, hz, hr4, bg4⟩
      have hzr2 : 0 ≤ z ∧ z ≤ 5 := by simp only [List.mem_cons, List.not_mem_nil, or_false] at hz; omega
      have HR4 := Lib.hid hr4
      have HO4 := Lib.hid (HO3.out.grownK bg4 (by omega))
      have HG4 := Lib.hid (grown_trans HG3.out bg4)
      have hz4 : w.heap.size ≤ w4.heap.size := HG4.out.size
      clear hz hr4 bg4 HR3 HO3 HG3
      obtain ⟨t, ht⟩ : ∃ t, t = min q z := ⟨_, rfl⟩
      have hmin : min q z = t := ht.symm
      have htr : 0 ≤ t ∧ t ≤ q := by omega
      clear ht
      have gq : IntKind.i64.wrap (q - t) = q - t := IntWalk.i64_in _ (by omega)
      go_wp2_with (at_builtin; refine wpList_appendI SlI _ rfl (.tmp 27) (.tmp 29) rfl t w.heap.size _ xs rfl rfl HO4.out ⟨by omega, by omega⟩ (by have := HXL.out; omega) hz4 ?_; intro v' w6 ho6 hg6; have HO6 := Lib.hid ho6; have HR6 := Lib.hid (HR4.out.grewK hg6 (by omega)); have HG6 := Lib.hid (grown_thenK HG4.out hg6.below (by omega)); clear ho6 hg6)
      go_roundw
      case rel => exact ⟨j + 1, k1 + 1 + 1, q - t, xs ++ [t], hlt, by go_num, rfl, by omega, by omega, by omega, by rw [List.length_append, List.length_singleton, HXL.out], HO6.out, HR6.out, HG6.out⟩
      case measure => simp [intOf]; omega
    have hnj : ¬ (j : Int) < (n : Int) := by omega
    by_cases hx0 : j = 0
    · have hx1 : ¬ (0 : Int) < (j : Int) := by omega
      have hx2 : ¬ 0 < j := by omega
      have Hx0 := Lib.hid hx0
      clear hx0
      go_wp2
      go_ret
      exact ⟨_, xs, k1, rfl, HO.out, HR.out, by omega, HG.out⟩
    have hx1 : (0 : Int) < (j : Int) := by omega
    have hx2 : 0 < j := by omega
    clear hx0
    go_wp2_with fail
    refine (pick_any B k1 g v 16 _ HR.out (by omega) (by omega)).mono ?_
    rintro e w3 ⟨y, rfl, hy, hr3, bo1⟩
    have HR3 := Lib.hid hr3
    have HO3 := Lib.hid (HO.out.grownK (grown_only bo1) (by omega))
    have HG3 := Lib.hid (grown_trans HG.out (grown_only bo1))
    have hz3 : w.heap.size ≤ w3.heap.size := HG3.out.size
    clear hy hr3 bo1 HO HG HR
    obtain ⟨e0, he0⟩ : ∃ e, (y == 0) = e := ⟨_, rfl⟩
    cases e0
    · go_wp2
      go_ret
      exact ⟨_, xs, k1 + 1, rfl, HO3.out, HR3.out, by omega, HG3.out⟩
    go_wp2_with fail
    refine (one_lit B (k1 + 1) g v [-1, 21, 20] w3 _ _ _ HR3.out (by omega) rfl rfl rfl (by simp) (by simp) (by unfold I64; simp)).mono ?_
    rintro e w4 ⟨z, rfl, hz, hr4, bg4⟩
    have hzr2 : -1 ≤ z ∧ z ≤ 21 := by simp only [List.mem_cons, List.not_mem_nil, or_false] at hz; omega
    have HR4 := Lib.hid hr4
    have HO4 := Lib.hid (HO3.out.grownK bg4 (by omega))
    have HG4 := Lib.hid (grown_trans HG3.out bg4)
    clear hz hr4 bg4 HR3 HO3 HG3
    obtain ⟨gb, hA, hgb1, hgb2, cx, fx, hst⟩ := HO4.out.at_ (i := 0) (by have := HXL.out; omega)
    subst hA
    have HST := Lib.hid (hst z ⟨by omega, by omega⟩)
    have HRS := Lib.hid (HR4.out.kept (w' := w4.setCell ⟨gb, 0, none⟩ (.int .i64 z)) (Below.heap_setCell _ _ _ _ (by have := HR4.out.lt; show g ≠ gb; omega)) fun j' _ hj' => Below.heap_setCell _ _ _ _ (by have := HR4.out.lt; show j' ≠ gb; omega))
    clear hst
    go_wp2
    go_ret
    exact ⟨_, xs.set 0 z, k1 + 1 + 1, rfl, HST.out, HRS.out, by omega, grown_setCell HG4.out (by show w.heap.size ≤ gb; omega) _⟩
def GsPost (w : World) (e : Ending) (w' : World) : Prop := ∃ (p : Int) (u1 u2 : Value) (ws xs : List Int), e = .returned (.tuple #[.int .i64 p, u1, u2]) ∧ Ints w' w.heap.size w'.heap.size u1 ws ∧ Ints w' w.heap.size w'.heap.size u2 xs ∧ Below w.heap.size w w'
set_option maxRecDepth 100000 in
set_option maxHeartbeats 2000000 in
theorem DrawValidWants_any (v : Value) (bs : List Int) (w : World) (h : Bytes w 0 w.heap.size v bs) :
    Calls Try.prog 72 #[v] w fun e w' => GsPost w e w' := by
  have hv : ∃ A n c, v = .slice A n c := by obtain ⟨A, c, e, _⟩ := h; exact ⟨A, _, c, e⟩
  obtain ⟨A0, n0, c0, rfl⟩ := hv
  go_enter Try.func72, Try.ntmps72
  go_wp2_with fail
  refine (newReader_any _ bs w h).mono ?_
  rintro e w2 ⟨rv, rfl, hr2, bx⟩
  have hz2 := hr2.lt
  have HB2 := Lib.hid bx
  clear h bx
  go_wp2_with fail
  refine (anyWidths_any _ _ _ rv w2 hr2 (by omega)).mono ?_
  rintro e w3 ⟨p, u, ws, k1, rfl, hp, ho3, hl5, hr3, hk3, bg3⟩
  have hfo := ho3.form
  obtain ⟨A, c, rfl, hc, hm⟩ := hfo
  have HB3 := Lib.hid (HB2.out.trans (below_of_grown bg3 (Nat.le_refl _) (by omega)))
  have HO3 := Lib.hid ho3
  have hz3 := bg3.size
  clear hr2 HB2 bg3 ho3
  go_wp2_with fail
  refine (someWants_any _ _ _ ws.length c rv A 60 w3 hr3 (by omega) hl5 (by omega)).mono ?_
  rintro e w4 ⟨u4, xs, k4, rfl, ho4, hr4, hk4, bg4⟩
  have HB4 := Lib.hid (HB3.out.trans (below_of_grown bg4 (Nat.le_refl _) (by omega)))
  have H1 := Lib.hid (show Ints w4 w.heap.size w4.heap.size (.slice A ws.length c) ws from (HO3.out.grownK bg4 (by omega)).ints.wide (by omega) (Nat.le_refl _))
  have H2 := Lib.hid (show Ints w4 w.heap.size w4.heap.size u4 xs from ho4.ints.wide (by omega) (Nat.le_refl _))
  clear hr3 hr4 HB3 bg4 ho4 HO3
  go_wp2
  go_ret3
  exact ⟨p, _, u4, ws, xs, rfl, H1.out, H2.out, HB4.out⟩
set_option maxRecDepth 100000 in
set_option maxHeartbeats 2000000 in
theorem DrawGreedySets_any (v : Value) (bs : List Int) (w : World) (h : Bytes w 0 w.heap.size v bs) :
    Calls Try.prog 35 #[v] w fun e w' => GsPost w e w' := by
  have hv : ∃ A n c, v = .slice A n c := by obtain ⟨A, c, e, _⟩ := h; exact ⟨A, _, c, e⟩
  obtain ⟨A0, n0, c0, rfl⟩ := hv
  go_enter Try.func35, Try.ntmps35
  go_wp2_with fail
  refine (DrawValidWants_any _ bs w h).mono ?_
  rintro e w2 ⟨p, u1, u2, ws, xs, rfl, h1, h2, hb⟩
  have H1 := Lib.hid h1
  have H2 := Lib.hid h2
  have HB := Lib.hid hb
  clear h h1 h2 hb
  go_wp2
  go_ret3
  exact ⟨p, u1, u2, ws, xs, rfl, H1.out, H2.out, HB.out⟩
end Go.Proofs.Yteckjiaaikdghaa

namespace Go.Proofs.Yteckjiaaikdghaa
open Go.RowKit

/-! what the sets are: valid patterns, their sum is what is wanted, and what a later set has did not fit into an earlier one -/
theorem snd_pat {W : Int} {ws l : List Int} {K' : List Nat} {s : Gs} (hv : vWid W ws = true) (h : SndG W ws l K' s) : vPat W ws s.c = true := by
  have hw := fun i (hi : i < ws.length) => vWid_w hv hi
  have hnn : ∀ i, i < ws.length → 0 ≤ gi s.c i ∧ 0 ≤ gi ws i := fun i hi => ⟨h.c0 i, by have := hw i hi; omega⟩
  have hr := h.rW
  have h0 := h.r0
  refine vPat_iff.2 ⟨hv, h.cl, fun i hi => ⟨h.c0 i, ?_⟩, by rw [h.cl]; omega⟩
  have hi' : i < ws.length := by rw [← h.cl]; exact hi
  have h1 := used_step hnn (k := i + 1) hi' (m := ws.length) hi' (Nat.le_refl _)
  have h2 : usedL ws s.c (i + 1) = usedL ws s.c i + gi s.c i * gi ws i := rfl
  have h3 := used_nonneg (ws := ws) (cs := s.c) (n := ws.length) hnn (m := i) (Nat.le_of_lt hi')
  have h4 : gi s.c i * 1 ≤ gi s.c i * gi ws i := Int.mul_le_mul_of_nonneg_left (hw i hi').1 (h.c0 i)
  omega
theorem grd_cnt {W : Int} {ws : List Int} {K : List Nat} (hv : vWid W ws = true) (hW : 0 ≤ W) (hK : OrdG ws.length K) : ∀ (k : Nat) (l : List Int), l.length = ws.length → (∀ i, 0 ≤ gi l i) → ∀ c ∈ grdN W ws K k l, vPat W ws c = true ∧ ∀ i, 0 ≤ gi c i ∧ gi c i ≤ gi l i
  | 0, _, _, _, c, hc => by cases hc
  | k + 1, l, hl, h0, c, hc => by
    have hS := pat_snd (W := W) (fun i hi => (vWid_w hv hi).1) hW hK hl h0
    rw [grdN] at hc
    by_cases hs : 0 < l.sum
    · rw [if_pos hs] at hc
      rcases List.mem_cons.1 hc with rfl | hc
      · exact ⟨snd_pat hv hS, fun i => ⟨hS.c0 i, by have := hS.sum i; have := hS.l0' i; omega⟩⟩
      · have ih := grd_cnt hv hW hK k _ hS.ll hS.l0' c hc
        exact ⟨ih.1, fun i => ⟨(ih.2 i).1, by have := (ih.2 i).2; have := hS.sum i; have := hS.c0 i; omega⟩⟩
    · rw [if_neg hs] at hc; cases hc
/-- how many of one kind the sets have -/
def colS (xss : List (List Int)) (i : Nat) : Int := (xss.map fun c => gi c i).sum
theorem grd_sum {W : Int} {ws : List Int} {K : List Nat} (hv : vWid W ws = true) (hW : 0 ≤ W) (hK : OrdG ws.length K) : ∀ (k : Nat) (l : List Int), l.length = ws.length → (∀ i, 0 ≤ gi l i) → l.sum.toNat ≤ k → ∀ i, colS (grdN W ws K k l) i = gi l i
  | 0, l, _, h0, hk, i => by
    have := sumG_zero (ys := l) (fun i _ => h0 i) (by omega) i
    rw [this]; rfl
  | k + 1, l, hl, h0, hk, i => by
    have hS := pat_snd (W := W) (fun i hi => (vWid_w hv hi).1) hW hK hl h0
    rw [grdN]
    by_cases hs : 0 < l.sum
    · rw [if_pos hs]
      have hd := pat_some (W := W) (fun i hi => vWid_w hv hi) hW hK hl h0 hs
      have ih := grd_sum hv hW hK k _ hS.ll hS.l0' (by omega) i
      unfold colS at ih ⊢
      rw [List.map_cons, List.sum_cons, ih]
      exact hS.sum i
    · rw [if_neg hs]
      have := sumG_zero (ys := l) (fun i _ => h0 i) (by omega) i
      rw [this]; rfl
/-- what a later set has did not fit -/
theorem grd_fit {W : Int} {ws : List Int} {K : List Nat} (hv : vWid W ws = true) (hW : 0 ≤ W) (hK : OrdG ws.length K) : ∀ (k : Nat) (l : List Int), l.length = ws.length → (∀ i, 0 ≤ gi l i) → (grdN W ws K k l).Pairwise fun a b => ∀ i, i < ws.length → 0 < gi b i → W - usedL ws a ws.length < gi ws i
  | 0, _, _, _ => List.Pairwise.nil
  | k + 1, l, hl, h0 => by
    have hS := pat_snd (W := W) (fun i hi => (vWid_w hv hi).1) hW hK hl h0
    rw [grdN]
    by_cases hs : 0 < l.sum
    · rw [if_pos hs]
      refine List.pairwise_cons.2 ⟨fun b hb i hi hp => ?_, grd_fit hv hW hK k _ hS.ll hS.l0'⟩
      have h1 := ((grd_cnt hv hW hK k _ hS.ll hS.l0' b hb).2 i).2
      have h2 := hS.fit i ((hK.2 i).2 hi) (by omega)
      rw [hS.rW] at h2
      exact h2
    · rw [if_neg hs]; exact List.Pairwise.nil
theorem gs_pat {W : Int} {ws xs : List Int} : ∀ c ∈ gsL W ws xs, vPat W ws c = true := fun c hc => by
  unfold gsL at hc
  split at hc
  · rename_i h
    have hv := vWan_iff.1 h
    have hW := (vWid_iff.1 hv.1).1
    exact (grd_cnt hv.1 (by omega) (kOrd_desc hv.1).1 _ _ hv.2.1 (gi_nn fun i hi => (hv.2.2.1 i hi).1) c hc).1
  · cases hc
theorem gs_sum {W : Int} {ws xs : List Int} (h : vWan W ws xs = true) (i : Nat) : colS (gsL W ws xs) i = gi xs i := by
  have hv := vWan_iff.1 h
  have hW := (vWid_iff.1 hv.1).1
  unfold gsL
  rw [if_pos h]
  exact grd_sum hv.1 (by omega) (kOrd_desc hv.1).1 _ _ hv.2.1 (gi_nn fun i hi => (hv.2.2.1 i hi).1) (Nat.le_refl _) i
theorem gs_fit {W : Int} {ws xs : List Int} {a b i : Nat} (hab : a < b) (hb : b < (gsL W ws xs).length) (hi : i < ws.length) (hp : 0 < gi (gr (gsL W ws xs) b) i) : W - usedL ws (gr (gsL W ws xs) a) ws.length < gi ws i := by
  have key : (gsL W ws xs).Pairwise fun a b => ∀ i, i < ws.length → 0 < gi b i → W - usedL ws a ws.length < gi ws i := by
    unfold gsL
    split
    · rename_i h
      have hv := vWan_iff.1 h
      have hW := (vWid_iff.1 hv.1).1
      exact grd_fit hv.1 (by omega) (kOrd_desc hv.1).1 _ _ hv.2.1 (gi_nn fun i hi => (hv.2.2.1 i hi).1)
    · exact List.Pairwise.nil
  have := List.pairwise_iff_getElem.1 key a b (by omega) hb hab
  rw [gr_eq (by omega)] at hp
  rw [gr_eq (by omega)]
  exact this i hi hp
end Go.Proofs.Yteckjiaaikdghaa

namespace Go.Proofs.Yteckjiaaikdghaa
open Go.RowKit
attribute [local go_sem ↓] Go.wp_at_zero Go.wp_at_succ

theorem colS_snoc {xss : List (List Int)} {k i : Nat} (hk : k < xss.length) : colS (xss.take (k + 1)) i = colS (xss.take k) i + gi (gr xss k) i := by
  unfold colS
  rw [List.take_succ_eq_append_getElem hk, List.map_append, List.sum_append, gr_eq hk]; simp
theorem colS_rng {i : Nat} : ∀ {xss : List (List Int)}, (∀ c ∈ xss, 0 ≤ gi c i ∧ gi c i ≤ 60) → 0 ≤ colS xss i ∧ colS xss i ≤ 60 * xss.length
  | [], _ => ⟨Int.le_refl _, Int.le_refl _⟩
  | x :: t, h => by
    have ih := colS_rng (xss := t) fun c hc => h c (List.mem_cons_of_mem _ hc)
    have h0 := h x List.mem_cons_self
    have e : colS (x :: t) i = gi x i + colS t i := by unfold colS; rw [List.map_cons, List.sum_cons]
    rw [e, List.length_cons]
    omega
theorem mapR_set {n j : Nat} {f g : Nat → Int} {y : Int} (h : ∀ i, i < n → g i = if i = j then y else f i) : ((List.range n).map f).set j y = (List.range n).map g := by
  apply List.ext_getElem
  · simp
  · intro i h1 h2
    have hi : i < n := by simpa using h2
    rw [List.getElem_set]
    simp only [List.getElem_map, List.getElem_range]
    rw [h i hi]
    by_cases hij : i = j
    · rw [if_pos hij, if_pos hij.symm]
    · rw [if_neg hij, if_neg fun e => hij e.symm]
set_option maxRecDepth 100000 in
set_option maxHeartbeats 4000000 in
theorem WholeSets_any (l1 h1 l2 h2 : Nat) (v u : Value) (W : Int) (ws : List Int) (xss : List (List Int)) (w : World) (hv : vWid W ws = true) (hp : ∀ c ∈ xss, vPat W ws c = true) (hlen : xss.length ≤ 60) (h : Ints w l1 h1 v ws) (hh1 : h1 ≤ w.heap.size) (hy : IRows w l2 h2 u xss) (hh2 : h2 ≤ w.heap.size) :
    Calls Try.prog 38 #[.int .i64 W, v, u] w fun e w' => ∃ v', e = .returned v' ∧ OwnI w' w.heap.size 3 v' ((List.range ws.length).map (colS xss)) ∧ Below w.heap.size w w' := by
  obtain ⟨A, c, rfl, hc, hm⟩ := h.form
  obtain ⟨B, d, rfl, hd, hm2⟩ := hy.form
  have hvd := vWid_iff.1 hv
  obtain ⟨n, hn⟩ : ∃ n, n = ws.length := ⟨_, rfl⟩
  have hn6 : n ≤ 6 := by omega
  have hW60 : W ≤ 60 := hvd.2.1
  have HN := Lib.hid hn
  have HV := Lib.hid hv
  have HH := Lib.hid h
  have HY := Lib.hid hy
  have HP := Lib.hid (show ∀ k, k < xss.length → vPat W ws (gr xss k) = true ∧ (gr xss k).length = ws.length ∧ ∀ i, 0 ≤ gi (gr xss k) i ∧ gi (gr xss k) i ≤ 60 from fun k hk => by
    have h1 := hp _ (by rw [gr_eq hk]; exact List.getElem_mem hk : gr xss k ∈ xss)
    have h3 := vPat_iff.1 h1
    refine ⟨h1, h3.2.1, fun i => ?_⟩
    by_cases hi : i < (gr xss k).length
    · have := h3.2.2.1 i hi; omega
    · have : gi (gr xss k) i = 0 := by unfold gi; rw [List.getD_eq_getElem?_getD, List.getElem?_eq_none (by omega)]; rfl
      omega)
  have HC := Lib.hid (show ∀ k i, 0 ≤ colS (xss.take k) i ∧ colS (xss.take k) i ≤ 3600 from fun k i => by
    have h1 := colS_rng (xss := xss.take k) (i := i) fun c hc => by
      have hm := List.mem_of_mem_take hc
      have h3 := vPat_iff.1 (hp c hm)
      by_cases hi : i < c.length
      · have := h3.2.2.1 i hi; omega
      · have : gi c i = 0 := by unfold gi; rw [List.getD_eq_getElem?_getD, List.getElem?_eq_none (by omega)]; rfl
        omega
    have h2 : (xss.take k).length ≤ xss.length := by rw [List.length_take]; omega
    omega)
  have hwn : (ws.length : Int) = (n : Int) := by omega
  have hl6 : ¬ (60 : Int) < (xss.length : Int) := by omega
  clear hv hvd hp h hy hn
  go_enter Try.func38, Try.ntmps38
  go_wp2_with fail
  refine (ValidWidths_any l1 h1 W _ ws w HH.out).mono ?_
  rw [HV.out]
  rintro e x1 ⟨rfl, hx1⟩
  subst hx1
  go_wp2_with (at_make; refine wpList_makeI SlI _ rfl _ _ rfl w.heap.size n rfl rfl (by omega) (Nat.le_refl _) ?_; intro w2 ho2 hb2 hs2)
  have HO0 := Lib.hid ho2
  have HB0 := Lib.hid hb2
  clear ho2 hb2
  go_wp2
  go_loopw [9, 10, 11, 26] (fun _ _ _ i wr => ∃ k : Nat, k ≤ xss.length ∧ i = .int .i64 k ∧ Hid (OwnI wr w.heap.size 3 (.slice (some ⟨w.heap.size, 0, none⟩) n n) ((List.range n).map (colS (xss.take k)))) ∧ Hid (Below w.heap.size w wr)) (fun _ _ _ i _ => xss.length - (intOf i).toNat)
  case atStart => exact ⟨0, Nat.zero_le _, rfl, by
    have e : List.replicate n (0 : Int) = (List.range n).map (colS (xss.take 0)) := by
      apply List.ext_getElem
      · simp
      · intro i h1 h2; simp [colS]
    rw [← e]; exact HO0.out, HB0.out⟩
  case round =>
    obtain ⟨k, hk, rfl, HO, HB⟩ := hrel
    clear HO0 HB0
    by_cases hlt : k < xss.length
    rotate_left
    · have hnk : ¬ (k : Int) < (xss.length : Int) := by omega
      have HR := Lib.hid (show OwnI wr w.heap.size 3 (.slice (some ⟨w.heap.size, 0, none⟩) n n) ((List.range ws.length).map (colS xss)) by
        have := HO.out
        rw [List.take_of_length_le (by omega)] at this
        rw [← HN.out]; exact this)
      go_wp2
      go_ret
      exact ⟨_, rfl, HR.out, HB.out⟩
    obtain ⟨wo, rfl⟩ : ∃ wo : World, wo = wr := ⟨_, rfl⟩
    obtain ⟨b, o, Ai, ci, hB, hbl, hbh, cr, hci, hci2, hrow⟩ := (HY.out.below HB.out hh2).row hlt
    subst hB
    have hpk := HP.out k hlt
    have hcl : (gr xss k).length = n := by have := HN.out; omega
    rw [hcl] at cr hci hrow
    obtain ⟨cs, hcs⟩ : ∃ c, c = gr xss k := ⟨_, rfl⟩
    rw [← hcs] at hpk hcl hrow
    have HCS := Lib.hid hcs
    have HROW := Lib.hid hrow
    have HPK := Lib.hid hpk
    have HCL := Lib.hid hcl
    have k0 : (0 : Int) ≤ (k : Int) := by omega
    have k1 : (k : Int) < (xss.length : Int) := by omega
    clear hcs hrow hpk hcl
    go_wp2_with fail
    refine (ValidPattern_any _ _ _ _ W _ _ ws cs wo (HH.out.below HB.out hh1) HROW.out).mono ?_
    rw [HPK.out.1]
    rintro e x1 ⟨rfl, hx1⟩
    subst hx1
    go_wp2
    go_loopw [10, 11, 37] (fun _ _ i wx => ∃ j : Nat, j ≤ n ∧ i = .int .i64 j ∧ Hid (OwnI wx w.heap.size 3 (.slice (some ⟨w.heap.size, 0, none⟩) n n) ((List.range n).map fun i => if i < j then colS (xss.take (k + 1)) i else colS (xss.take k) i)) ∧ Hid (Below w.heap.size w wx)) (fun _ _ i _ => n - (intOf i).toNat)
    case atStart => exact ⟨0, Nat.zero_le _, rfl, by
      have e : ((List.range n).map fun i => if i < 0 then colS (xss.take (k + 1)) i else colS (xss.take k) i) = (List.range n).map (colS (xss.take k)) := List.map_congr_left fun i _ => if_neg (Nat.not_lt_zero i)
      rw [e]; exact HO.out, HB.out⟩
    case round =>
      obtain ⟨j, hj, rfl, HOx, HBx⟩ := hrel
      obtain ⟨wx, rfl⟩ : ∃ wx : World, wx = wr := ⟨_, rfl⟩
      by_cases hjn : j < n
      rotate_left
      · have hnj : ¬ (j : Int) < (n : Int) := by omega
        have HR := Lib.hid (show OwnI wx w.heap.size 3 (.slice (some ⟨w.heap.size, 0, none⟩) n n) ((List.range n).map (colS (xss.take (k + 1)))) by
          have := HOx.out
          have e : ((List.range n).map fun i => if i < j then colS (xss.take (k + 1)) i else colS (xss.take k) i) = (List.range n).map (colS (xss.take (k + 1))) := List.map_congr_left fun i hi => by
            have := List.mem_range.1 hi
            rw [if_pos (by omega)]
          rw [e] at this; exact this)
        go_wp2
        go_roundw
        case rel => exact ⟨k + 1, hlt, by go_num, HR.out, HBx.out⟩
        case measure => simp [intOf]; omega
      obtain ⟨bc, oc, hAi, hcl1, hch1, cc, _⟩ := (show Ints wx _ _ _ cs from HROW.out.kept fun k' h1 h2 => by
        have e1 := HB.out.block k' (show k' < w.heap.size by omega)
        have e2 := HBx.out.block k' (show k' < w.heap.size by omega)
        rw [e1, e2]).cell (k := j) (by have := HCL.out; omega)
      subst hAi
      obtain ⟨g1, hg1, _, _, cw, fw, _⟩ := HOx.out.at_ (i := j) (by simpa using hjn)
      simp only [Option.some.injEq, Addr.mk.injEq, and_true] at hg1
      subst hg1
      rw [gi_map_range hjn, if_neg (Nat.lt_irrefl j)] at cw
      have hr1 := HC.out k j
      have hr2 := HPK.out.2.2 j
      obtain ⟨x, hx⟩ : ∃ x, x = colS (xss.take k) j := ⟨_, rfl⟩
      obtain ⟨y, hy⟩ : ∃ y, y = gi cs j := ⟨_, rfl⟩
      have HXY := Lib.hid (show colS (xss.take (k + 1)) j = x + y by rw [colS_snoc hlt, hx, hy, HCS.out])
      rw [← hx] at cw hr1
      rw [← hy] at cc hr2
      have gx : IntKind.i64.wrap (x + y) = x + y := IntWalk.i64_in _ (by omega)
      have j0 : (0 : Int) ≤ (j : Int) := by omega
      have j1 : (j : Int) < (n : Int) := by omega
      have HO2 := Lib.hid (show OwnI (wx.setCell ⟨w.heap.size, j, none⟩ (.int .i64 (x + y))) w.heap.size 3 (.slice (some ⟨w.heap.size, 0, none⟩) n n) ((List.range n).map fun i => if i < j + 1 then colS (xss.take (k + 1)) i else colS (xss.take k) i) by
        have h9 := HOx.out.setI j (x := x + y) ⟨by omega, by omega⟩
        rw [mapR_set (g := fun i => if i < j + 1 then colS (xss.take (k + 1)) i else colS (xss.take k) i)] at h9
        · exact h9
        · intro i hi
          by_cases hij : i = j
          · subst hij
            rw [if_pos (Nat.lt_succ_self i), if_pos rfl, HXY.out]
          · rw [if_neg hij]
            by_cases h2 : i < j
            · rw [if_pos (by omega), if_pos h2]
            · rw [if_neg (by omega), if_neg h2])
      have HB2 := Lib.hid (HBx.out.setCell (p := ⟨w.heap.size, j, none⟩) (Nat.le_refl _) (.int .i64 (x + y)))
      clear hx hy HOx HBx
      go_wp2
      go_roundw
      case rel => exact ⟨j + 1, by omega, by go_num, HO2.out, HB2.out⟩
      case measure => simp [intOf]; omega
end Go.Proofs.Yteckjiaaikdghaa

namespace Go.Proofs.Yteckjiaaikdghaa
open Go.RowKit
attribute [local go_sem ↓] Go.wp_at_zero Go.wp_at_succ

set_option maxRecDepth 100000 in
set_option maxHeartbeats 8000000 in
theorem FnGreedySets_walk (v : Value) (xs : List Int) (w : World) (h : Bytes w 0 w.heap.size v xs) :
    Calls Try.prog 8 #[v] w fun e w' => e = .returned (.bool true) ∧ Below w.heap.size w w' := by
  have hv : ∃ A c, v = .slice A xs.length c ∧ xs.length ≤ c ∧ c ≤ 2 ^ 63 - 1 := by obtain ⟨A, c, e, h1, h2, _⟩ := h; exact ⟨A, c, e, h1, by unfold maxLen at h2; omega⟩
  obtain ⟨A0, c0, rfl, hc0, hm0⟩ := hv
  by_cases hl : 1048576 < xs.length
  · have hl' : (1048576 : Int) < (xs.length : Int) := by omega
    go_enter Try.func8, Try.ntmps8
    go_wp2
    go_ret
    exact ⟨rfl, Below.refl _ _⟩
  have hl' : ¬ (1048576 : Int) < (xs.length : Int) := by omega
  go_enter Try.func8, Try.ntmps8
  go_wp2_with fail
  refine (DrawGreedySets_any _ xs w h).mono ?_
  rintro e w1 ⟨p, u1, u2, ws, ns, rfl, hi1, hi2, b1⟩
  obtain ⟨A1, c1, rfl, hc1, hm1⟩ := hi1.form
  obtain ⟨A2, c2, rfl, hc2, hm2⟩ := hi2.form
  have HB1 := Lib.hid b1
  have HW := Lib.hid (hi1.wide (Nat.zero_le _) (Nat.le_refl _))
  have HX := Lib.hid (hi2.wide (Nat.zero_le _) (Nat.le_refl _))
  have hz1 := b1.size
  clear h hl hl' b1 hi1 hi2
  obtain ⟨R, hR⟩ : ∃ R, R = gsL p ws ns := ⟨_, rfl⟩
  have HR := Lib.hid hR
  have hRl : R.length ≤ 60 := by rw [hR]; exact gsL_len _ _ _
  clear hR
  go_wp2_with fail
  refine (GreedySets_any _ _ _ _ _ _ p ws ns w1 HW.out (Nat.le_refl _) HX.out (Nat.le_refl _)).mono ?_
  rw [← HR.out]
  rintro e w2 ⟨vo, rfl, oo, b⟩
  obtain ⟨A3, c3, rfl, hc3, hm3⟩ := oo.form
  have HO := Lib.hid oo.rows
  have HB2 := Lib.hid b
  have hz2 := b.size
  clear oo b
  go_wp2_with fail
  refine (sGreedySets_any _ _ _ _ _ _ p ws ns w2 (HW.out.below HB2.out (Nat.le_refl _)) hz2 (HX.out.below HB2.out (Nat.le_refl _)) hz2).mono ?_
  rw [← HR.out]
  rintro e w3 ⟨vs, rfl, os, b⟩
  obtain ⟨A4, c4, rfl, hc4, hm4⟩ := os.form
  have HS := Lib.hid os.rows
  have HO3 := Lib.hid (HO.out.below b (Nat.le_refl _))
  have HB3 := Lib.hid (HB2.out.trans (b.mono hz2))
  have hz3 := b.size
  clear os b
  go_wp2_with fail
  refine (equalLists_any _ _ _ _ _ _ R R w3 HO3.out HS.out).mono ?_
  rw [eqLL_same]
  rintro e w4 ⟨rfl, q⟩
  have HB4 := Lib.hid (HB3.out.trans (q.below _))
  have HO4 := Lib.hid (HO3.out.below (q.below w3.heap.size) hz3)
  have hz4 := (q.below w3.heap.size).size
  clear q HS HO3 HO
  by_cases h0 : R.length = 0
  · have h1 : ((R.length : Int) == 0) = true := beq_t (by omega)
    have H0 := Lib.hid h0
    clear h0
    go_wp2_with fail
    refine (sGreedySets_any _ _ _ _ _ _ p ws ns w4 (HW.out.below HB4.out (Nat.le_refl _)) (by omega) (HX.out.below HB4.out (Nat.le_refl _)) (by omega)).mono ?_
    rw [← HR.out]
    rintro e w5 ⟨vs, rfl, os, b⟩
    have hfs := os.form
    obtain ⟨A5, c5, rfl, hc5, hm5⟩ := hfs
    have HS := Lib.hid os.rows
    have HO5 := Lib.hid (HO4.out.below b (by omega))
    have HB5 := Lib.hid (HB4.out.trans (b.mono (by omega)))
    clear os b
    go_wp2_with fail
    refine (equalLists_any _ _ _ _ _ _ R R w5 HO5.out HS.out).mono ?_
    rw [eqLL_same]
    rintro e w6 ⟨rfl, q⟩
    have HB6 := Lib.hid (HB5.out.trans (q.below _))
    clear q HS HO5
    go_wp2
    go_ret
    exact ⟨rfl, HB1.out.trans (HB6.out.mono hz1)⟩
  have h1 : ((R.length : Int) == 0) = false := beq_f (by omega)
  have hvw : vWan p ws ns = true := by
    cases hv : vWan p ws ns
    · exfalso
      have := HR.out
      unfold gsL at this
      rw [hv] at this
      rw [this] at h0; exact h0 rfl
    · rfl
  have hvd := vWan_iff.1 hvw
  have hwd := vWid_iff.1 hvd.1
  have HV := Lib.hid hvw
  have HVD := Lib.hid hvd.1
  have hn6 : ws.length ≤ 6 := hwd.2.2.2.1
  have HNL := Lib.hid hvd.2.1
  have HP := Lib.hid (show ∀ i, i < R.length → vPat p ws (gr R i) = true from fun i hi => gs_pat (gr R i) (by rw [← HR.out, gr_eq hi]; exact List.getElem_mem hi))
  have HF := Lib.hid (show ∀ i j, i + 1 < R.length → j < ws.length → 0 < gi (gr R (R.length - 1)) j → p - usedL ws (gr R i) ws.length < gi ws j from fun i j hi hj hp => by
    have := gs_fit (W := p) (ws := ws) (xs := ns) (a := i) (b := R.length - 1) (i := j) (by omega) (by rw [← HR.out]; omega) hj (by rw [← HR.out]; exact hp)
    rw [← HR.out] at this; exact this)
  have HPT := Lib.hid (show ∀ c ∈ R, vPat p ws c = true from fun c hc => gs_pat c (by rw [← HR.out]; exact hc))
  have HSUM := Lib.hid (show (List.range ws.length).map (colS R) = ns by
    apply List.ext_getElem
    · simp [hvd.2.1]
    · intro i h1 h2
      simp only [List.getElem_map, List.getElem_range]
      rw [HR.out, gs_sum hvw i, gi_eq h2])
  clear hvw hvd hwd
  obtain ⟨m, hm⟩ : ∃ m, R.length = m + 1 := ⟨R.length - 1, by omega⟩
  have hmR : m < R.length := by omega
  obtain ⟨bo, oo, Al, cl, hA3, hbl, hbh, crow, hcl, hcl2, hlast⟩ := HO4.out.row hmR
  subst hA3
  have hpl := (vPat_iff.1 (HP.out m hmR)).2.1
  have HFm := Lib.hid (show ∀ i j, i < m → j < ws.length → 0 < gi (gr R m) j → p - usedL ws (gr R i) ws.length < gi ws j from fun i j hi hj hp => HF.out i j (by omega) hj (by rw [hm]; exact hp))
  obtain ⟨last, hlastE⟩ : ∃ l, l = gr R m := ⟨_, rfl⟩
  rw [← hlastE] at hlast hpl crow hcl HFm
  rw [hpl] at hlast crow hcl
  have HLA := Lib.hid hlast
  have HLL := Lib.hid hpl
  have hmi : (R.length : Int) - 1 = (m : Int) := by omega
  have gm : IntKind.i64.wrap (m : Int) = (m : Int) := IntWalk.i64_in _ (by omega)
  have i0 : (0 : Int) ≤ (m : Int) := by omega
  have i1 : (m : Int) < (R.length : Int) := by omega
  have HM := Lib.hid hm
  have hm60 : m ≤ 60 := by omega
  clear hm h0 hlast hpl hlastE HF
  go_wp2
  go_loopw [8, 9, 10] (fun i _ _ wr => ∃ k : Nat, k ≤ m ∧ i = .int .i64 k ∧ Hid (Below w4.heap.size w4 wr)) (fun i _ _ _ => m - (intOf i).toNat)
  case atStart => exact ⟨0, Nat.zero_le _, rfl, Below.refl _ _⟩
  case round =>
    obtain ⟨i, hi, rfl, HBi⟩ := hrel
    obtain ⟨wi, rfl⟩ : ∃ wi : World, wi = wr := ⟨_, rfl⟩
    have gi1 : IntKind.i64.wrap ((i : Int) + 1) = (i : Int) + 1 := IntWalk.i64_in _ (by omega)
    by_cases hlt : i < m
    rotate_left
    · have hni : ¬ (i : Int) + 1 < (R.length : Int) := by omega
      go_wp2_with fail
      refine (WholeSets_any _ _ _ _ _ _ p ws R wi HVD.out HPT.out hRl ((HW.out.below HB4.out (Nat.le_refl _)).below HBi.out (by omega)) (by have := HBi.out.size; omega) (HO4.out.below HBi.out (by omega)) (by have := HBi.out.size; omega)).mono ?_
      rw [HSUM.out]
      rintro e w7 ⟨v7, rfl, o7, b7⟩
      have H7 := Lib.hid o7.ints
      have HB7 := Lib.hid (HB4.out.trans ((HBi.out.trans (b7.mono HBi.out.size)).mono (by omega)))
      have HX7 := Lib.hid (((HX.out.below HB4.out (Nat.le_refl _)).below HBi.out (by omega)).below b7 (by have := HBi.out.size; omega))
      clear o7 b7
      go_wp2_with fail
      refine (equalInts_any _ _ _ _ _ _ ns ns w7 H7.out HX7.out).mono ?_
      rw [eqL_same]
      rintro e w8 ⟨rfl, q⟩
      have HB8 := Lib.hid (HB7.out.trans (q.below _))
      clear q
      go_wp2
      go_ret
      exact ⟨rfl, HB1.out.trans (HB8.out.mono hz1)⟩
    have hi1 : (i : Int) + 1 < (R.length : Int) := by omega
    have hiR : i < R.length := by omega
    have k0 : (0 : Int) ≤ (i : Int) := by omega
    have k1 : (i : Int) < (R.length : Int) := by omega
    obtain ⟨Ai, ci, cri, hci, hci2, hrow⟩ := (HO4.out.below HBi.out (by omega)).row' hiR
    have hpi := (vPat_iff.1 (HP.out i hiR)).2.1
    obtain ⟨t, ht⟩ : ∃ t, t = p - usedL ws (gr R i) ws.length := ⟨_, rfl⟩
    have HT := Lib.hid (show ∀ j, j < ws.length → 0 < gi last j → t < gi ws j from fun j hj hp => by rw [ht]; exact HFm.out i j hlt hj hp)
    have HTR := Lib.hid (show (if vPat p ws (gr R i) = true then p - usedL ws (gr R i) (gr R i).length else -1) = t by rw [HP.out i hiR, if_pos rfl, hpi, ht])
    have HROW := Lib.hid hrow
    clear ht hpi hrow
    go_wp2_with fail
    refine (TrimOf_any _ _ _ _ p _ _ ws (gr R i) wi ((HW.out.below HB4.out (Nat.le_refl _)).below HBi.out (by omega)) HROW.out).mono ?_
    rw [HTR.out]
    rintro e x1 ⟨rfl, hx1⟩
    subst hx1
    go_wp2
    go_loopw [10] (fun j wr => ∃ k : Nat, k ≤ ws.length ∧ j = .int .i64 k ∧ Hid (Below w4.heap.size w4 wr)) (fun j _ => ws.length - (intOf j).toNat)
    case atStart => exact ⟨0, Nat.zero_le _, rfl, HBi.out⟩
    case round =>
      obtain ⟨j, hj, rfl, HBj⟩ := hrel
      by_cases hjt : j < ws.length
      rotate_left
      · have hnj : ¬ (j : Int) < (ws.length : Int) := by omega
        go_wp2
        go_roundw
        case rel => exact ⟨i + 1, by omega, by go_num, HBj.out⟩
        case measure => simp [intOf]; omega
      have hj1 : (j : Int) < (ws.length : Int) := by omega
      have hj0 : (0 : Int) ≤ (j : Int) := by omega
      obtain ⟨bl, ol, hAl, _, _, el, _⟩ := (HLA.out.below HBj.out (by omega)).cell (k := j) (by have := HLL.out; omega)
      obtain ⟨bw, ow, hAw, _, _, ew, _⟩ := ((HW.out.below HB4.out (Nat.le_refl _)).below HBj.out (by omega)).cell hjt
      subst hAl hAw
      have hTj := HT.out j hjt
      obtain ⟨x, hx⟩ : ∃ x, x = gi last j := ⟨_, rfl⟩
      obtain ⟨y, hy⟩ : ∃ y, y = gi ws j := ⟨_, rfl⟩
      rw [← hx] at el hTj
      rw [← hy] at ew hTj
      clear hx hy
      by_cases hx0 : 0 < x
      · have hx1 : x > 0 := hx0
        have hxy : ¬ y ≤ t := by have := hTj hx0; omega
        clear hTj
        go_wp2
        go_roundw
        case rel => exact ⟨j + 1, hjt, by go_num, HBj.out⟩
        case measure => simp [intOf]; omega
      · have hx1 : ¬ x > 0 := hx0
        clear hTj
        go_wp2
        go_roundw
        case rel => exact ⟨j + 1, hjt, by go_num, HBj.out⟩
        case measure => simp [intOf]; omega
end Go.Proofs.Yteckjiaaikdghaa
