/-
  Lemmas and contracts of single functions of this program, used by the proofs of its laws: what each call returns and what becomes of memory. Conditions: the hypotheses of each theorem.
-/
import Derived.Test.YteckjiaaikdghaaDrawR
import Derived.Test.YteckjiaaikdghaaSplR
namespace Go.Proofs.Yteckjiaaikdghaa
open Go.RowKit
attribute [local go_sem ↓] Go.wp_at_zero Go.wp_at_succ

theorem i64_5x {a b c d e : Int} (ha : I64 a) (hb : I64 b) (hc : I64 c) (hd : I64 d) (he : I64 e) : ∀ n ∈ [a, b, c, d, e], I64 n := fun n hn => by
  simp only [List.mem_cons, List.not_mem_nil, or_false] at hn
  rcases hn with rfl | rfl | rfl | rfl | rfl <;> assumption
theorem rng_snoc {xs : List Int} {lo hi y : Int} (h : ∀ x ∈ xs, lo ≤ x ∧ x ≤ hi) (hy : lo ≤ y ∧ y ≤ hi) : ∀ x ∈ xs ++ [y], lo ≤ x ∧ x ≤ hi := fun x hx => by
  rcases List.mem_append.1 hx with hx | hx
  · exact h x hx
  · rw [List.mem_singleton.1 hx]; exact hy
theorem rng_set {xs : List Int} {lo hi y : Int} {i : Nat} (h : ∀ x ∈ xs, lo ≤ x ∧ x ≤ hi) (hy : lo ≤ y ∧ y ≤ hi) : ∀ x ∈ xs.set i y, lo ≤ x ∧ x ≤ hi := fun x hx => by
  rcases List.mem_or_eq_of_mem_set hx with hx | hx
  · exact h x hx
  · rw [hx]; exact hy
theorem rng_gi {xs : List Int} {lo hi : Int} (h : ∀ x ∈ xs, lo ≤ x ∧ x ≤ hi) : ∀ i, i < xs.length → lo ≤ gi xs i ∧ gi xs i ≤ hi := fun i hi => by rw [gi_eq hi]; exact h _ (List.getElem_mem hi)
theorem OwnI.grownZ {w w' : World} {base e g : Nat} {v : Value} {xs : List Int} (h : OwnI w base e v xs) (hg : w.grownBy w' (some g)) (hlt : g < base) : OwnI w' base e v xs :=
  h.kept (Kept.of_grown hg (Nat.le_refl _) (.inl hlt))
theorem Rdr.grewZ {base : Nat} {v u u' : Value} {W w1 : World} {B k g : Nat} (h : Rdr W B k g v) (hg : Grew base u u' W w1) (hlt : g < base) : Rdr w1 B k g v := by
  have h0 := h.lt
  exact h.kept (hg.below.block g hlt) fun j _ hj => hg.below.block j (by omega)
theorem grown_thenZ {a b c : World} {B g : Nat} (h : a.grownBy b (some g)) (k : Below B b c) (hB : a.heap.size ≤ B) : a.grownBy c (some g) :=
  ⟨k.os.trans h.os, k.tape.trans h.tape, k.output.trans h.output, Nat.le_trans h.size k.size, fun i hi hn => (k.block i (by omega)).trans (h.block i hi hn)⟩
def SlPost (B k g : Nat) (v : Value) (w : World) (e : Ending) (w' : World) : Prop := ∃ (u : Value) (xs : List Int) (k' : Nat), e = .returned u ∧ OwnI w' w.heap.size 3 u xs ∧ xs.length ≤ 7 ∧ (∀ x ∈ xs, 0 ≤ x ∧ x ≤ 401) ∧ Rdr w' B k' g v ∧ k' ≤ k + 40 ∧ w.grownBy w' (some g)
set_option maxRecDepth 100000 in
set_option maxHeartbeats 4000000 in
theorem someLengths_any (B k g : Nat) (v : Value) (m : Int) (w : World) (h : Rdr w B k g v) (hk : k ≤ 900000) :
    Calls Try.prog 102 #[v, .int .i64 m] w fun e w' => SlPost B k g v w e w' := by
  have hg0 := h.lt
  have b1 : Below w.heap.size w (w.alloc (.cells #[] 3)) := (Below.refl _ _).alloc (Nat.le_refl _) _
  have HE0 := Lib.hid (OwnI.empty w w.heap.size 3 (Nat.le_refl _))
  have hr1 := h.below b1
  have HG1 := Lib.hid (grown_below b1 (some g))
  clear h b1
  go_enter Try.func102, Try.ntmps102
  go_wp2_with fail
  obtain ⟨wa, hwa⟩ : ∃ wa, wa = w.alloc (.cells #[] 3) := ⟨_, rfl⟩
  have HZa := Lib.hid (show wa.heap.size = w.heap.size + 1 by rw [hwa]; simp)
  rw [← hwa] at HE0 hr1 HG1 ⊢
  clear hwa
  refine (one_lit B k g v [3, 4, 2, 5, 1, 0, 7] wa _ _ _ hr1 (by omega) rfl rfl HZa.out.symm (by simp) (by simp) (by unfold I64; simp)).mono ?_
  rintro e w2 ⟨n0, rfl, hn, hr2, bg1⟩
  have hn0 : 0 ≤ n0 ∧ n0 ≤ 7 := by simp only [List.mem_cons, List.not_mem_nil, or_false] at hn; omega
  obtain ⟨n0, rfl⟩ := Int.eq_ofNat_of_zero_le hn0.1
  have HO0 := Lib.hid (HE0.out.grownZ bg1 (by omega))
  have HG0 := Lib.hid (grown_trans HG1.out bg1)
  have HR0 := Lib.hid hr2
  clear hr1 hr2 bg1 hn HE0 HG1
  go_wp2
  go_loopw [5, 6] (fun o n wr => ∃ (n' k' : Nat) (xs : List Int), n = .int .i64 n' ∧ n' ≤ 7 ∧ k' + 3 * n' ≤ k + 1 + 21 ∧ OwnI wr w.heap.size 3 o xs ∧ xs.length + n' ≤ 7 ∧ Hid (∀ x ∈ xs, 0 ≤ x ∧ x ≤ 401) ∧ Hid (Rdr wr B k' g v) ∧ Hid (w.grownBy wr (some g))) (fun _ n _ => (intOf n).toNat)
  case atStart => exact ⟨n0, k + 1, [], rfl, by omega, by omega, HO0.out, by simp; omega, fun x hx => absurd hx (by simp), HR0.out, HG0.out⟩
  case round =>
    clear HO0 HG0 HR0 hn0
    obtain ⟨n, k1, xs, rfl, hn7, hkn, hown, hxl, HX, HR, HG⟩ := hrel
    have hfo := hown.form
    obtain ⟨A, c, rfl, hc, hm⟩ := hfo
    have HO := Lib.hid hown
    have hzr := HG.out.size
    clear hown
    by_cases hgo : 0 < n ∧ (xs.length : Int) < m
    · obtain ⟨hn0, hlm⟩ := hgo
      have hn1 : (n : Int) > 0 := by omega
      have hn2 : (0 : Int) < n := by omega
      go_wp2_with fail
      refine (pick_any B k1 g v 30 _ HR.out (by omega) (by omega)).mono ?_
      rintro e w3 ⟨y1, rfl, hy1, hr3, bo1⟩
      have y1r := hy1.rng (m := 30) (by omega) (by omega)
      have HR3 := Lib.hid hr3
      have HO3 := Lib.hid (HO.out.grownZ (grown_only bo1) (by omega))
      have HG3 := Lib.hid (grown_trans HG.out (grown_only bo1))
      clear hy1 hr3 bo1 HO HG HR
      go_wp2_with fail
      refine (pick_any B (k1 + 1) g v 60 _ HR3.out (by omega) (by omega)).mono ?_
      rintro e w4 ⟨y2, rfl, hy2, hr4, bo2⟩
      have y2r := hy2.rng (m := 60) (by omega) (by omega)
      have HO4 := Lib.hid (HO3.out.grownZ (grown_only bo2) (by omega))
      have HG4 := Lib.hid (grown_trans HG3.out (grown_only bo2))
      have HR4 := Lib.hid hr4
      clear hy2 hr4 bo2 HO3 HG3 HR3
      go_wp2_with fail
      refine (one_lit B (k1 + 1 + 1) g v [y1, 9, 19, 4, y2] w4 _ _ _ HR4.out (by omega) rfl rfl rfl (by simp) (by simp) (i64_5x ⟨by omega, by omega⟩ ⟨by omega, by omega⟩ ⟨by omega, by omega⟩ ⟨by omega, by omega⟩ ⟨by omega, by omega⟩)).mono ?_
      rintro e w5 ⟨z, rfl, hz, hr5, bg5⟩
      have hz1 : 0 ≤ z ∧ z ≤ 59 := by simp only [List.mem_cons, List.not_mem_nil, or_false] at hz; omega
      have HO5 := Lib.hid (HO4.out.grownZ bg5 (by omega))
      have HG5 := Lib.hid (grown_trans HG4.out bg5)
      have HR5 := Lib.hid hr5
      have hz5 := HG5.out.size
      clear hz hr5 bg5 HO4 HG4 HR4 y1r y2r
      go_wp2_with (at_builtin; refine wpList_appendI SlI _ rfl (.tmp 21) (.tmp 30) rfl (1 + z) w.heap.size _ xs rfl rfl HO5.out ⟨by omega, by omega⟩ (by omega) hz5 ?_; intro v' w6 ho6 hg6; have HO6 := Lib.hid ho6; have HR6 := Lib.hid (HR5.out.grewZ hg6 (by omega)); have HG6 := Lib.hid (grown_thenZ HG5.out hg6.below (by omega)); clear ho6 hg6)
      go_roundw
      case rel => exact ⟨n - 1, k1 + 1 + 1 + 1, xs ++ [1 + z], by go_num, by omega, by omega, HO6.out, by rw [List.length_append, List.length_singleton]; omega, rng_snoc HX.out ⟨by omega, by omega⟩, HR6.out, HG6.out⟩
      case measure => simp [intOf]; omega
    · have hex : n = 0 ∨ (0 < n ∧ ¬ (xs.length : Int) < m) := by omega
      have Hgo := Lib.hid hgo
      clear hgo
      rcases hex with hex | ⟨hex, hex2⟩
      · have hn2 : ¬ (0 : Int) < n := by omega
        have Hex := Lib.hid hex
        clear hex
        by_cases hx0 : xs.length = 0
        · have hx1 : ¬ (0 : Int) < (xs.length : Int) := by omega
          have hx2 : ¬ 0 < xs.length := by omega
          have Hx0 := Lib.hid hx0
          clear hx0
          go_wp2
          go_ret
          exact ⟨_, xs, k1, rfl, HO.out, by omega, HX.out, HR.out, by omega, HG.out⟩
        · have hx1 : (0 : Int) < (xs.length : Int) := by omega
          have hx2 : 0 < xs.length := by omega
          go_wp2_with fail
          refine (pick_any B k1 g v 20 _ HR.out (by omega) (by omega)).mono ?_
          rintro e w3 ⟨y, rfl, hy, hr3, bo1⟩
          have HR3 := Lib.hid hr3
          have HO3 := Lib.hid (HO.out.grownZ (grown_only bo1) (by omega))
          have HG3 := Lib.hid (grown_trans HG.out (grown_only bo1))
          clear hy hr3 bo1 HO HG HR
          obtain ⟨e0, he0⟩ : ∃ e, (y == 0) = e := ⟨_, rfl⟩
          cases e0
          · go_wp2
            go_ret
            exact ⟨_, xs, k1 + 1, rfl, HO3.out, by omega, HX.out, HR3.out, by omega, HG3.out⟩
          · go_wp2_with fail
            refine (one_lit B (k1 + 1) g v [0, 401] w3 _ _ _ HR3.out (by omega) rfl rfl rfl (by simp) (by simp) (by unfold I64; simp)).mono ?_
            rintro e w4 ⟨q, rfl, hq, hr4, bg4⟩
            have hq1 : 0 ≤ q ∧ q ≤ 401 := by simp only [List.mem_cons, List.not_mem_nil, or_false] at hq; omega
            have HR4 := Lib.hid hr4
            have HG4 := Lib.hid (grown_trans HG3.out bg4)
            obtain ⟨go, hgo, hgb, _, hc1, hf1, hst⟩ := (HO3.out.grownZ bg4 (by omega)).at_ (i := 0) (by omega)
            subst hgo
            have Hst := Lib.hid (hst q ⟨by omega, by omega⟩)
            clear hq hr4 bg4 hst HO3 HG3 HR3
            go_wp2
            go_ret
            exact ⟨_, xs.set 0 q, k1 + 1 + 1, rfl, by have := Hst.out; simpa using this, by rw [List.length_set]; omega, rng_set HX.out hq1, HR4.out.set ⟨by show B ≤ go; omega, by show ¬ go = g; omega⟩ _, by omega, grown_setCell HG4.out (by show w.heap.size ≤ go; omega) _⟩
      · have hn2 : (0 : Int) < n := by omega
        by_cases hx0 : xs.length = 0
        · have hx1 : ¬ (0 : Int) < (xs.length : Int) := by omega
          have hx2 : ¬ 0 < xs.length := by omega
          have Hx0 := Lib.hid hx0
          clear hx0
          go_wp2
          go_ret
          exact ⟨_, xs, k1, rfl, HO.out, by omega, HX.out, HR.out, by omega, HG.out⟩
        · have hx1 : (0 : Int) < (xs.length : Int) := by omega
          have hx2 : 0 < xs.length := by omega
          go_wp2_with fail
          refine (pick_any B k1 g v 20 _ HR.out (by omega) (by omega)).mono ?_
          rintro e w3 ⟨y, rfl, hy, hr3, bo1⟩
          have HR3 := Lib.hid hr3
          have HO3 := Lib.hid (HO.out.grownZ (grown_only bo1) (by omega))
          have HG3 := Lib.hid (grown_trans HG.out (grown_only bo1))
          clear hy hr3 bo1 HO HG HR
          obtain ⟨e0, he0⟩ : ∃ e, (y == 0) = e := ⟨_, rfl⟩
          cases e0
          · go_wp2
            go_ret
            exact ⟨_, xs, k1 + 1, rfl, HO3.out, by omega, HX.out, HR3.out, by omega, HG3.out⟩
          · go_wp2_with fail
            refine (one_lit B (k1 + 1) g v [0, 401] w3 _ _ _ HR3.out (by omega) rfl rfl rfl (by simp) (by simp) (by unfold I64; simp)).mono ?_
            rintro e w4 ⟨q, rfl, hq, hr4, bg4⟩
            have hq1 : 0 ≤ q ∧ q ≤ 401 := by simp only [List.mem_cons, List.not_mem_nil, or_false] at hq; omega
            have HR4 := Lib.hid hr4
            have HG4 := Lib.hid (grown_trans HG3.out bg4)
            obtain ⟨go, hgo, hgb, _, hc1, hf1, hst⟩ := (HO3.out.grownZ bg4 (by omega)).at_ (i := 0) (by omega)
            subst hgo
            have Hst := Lib.hid (hst q ⟨by omega, by omega⟩)
            clear hq hr4 bg4 hst HO3 HG3 HR3
            go_wp2
            go_ret
            exact ⟨_, xs.set 0 q, k1 + 1 + 1, rfl, by have := Hst.out; simpa using this, by rw [List.length_set]; omega, rng_set HX.out hq1, HR4.out.set ⟨by show B ≤ go; omega, by show ¬ go = g; omega⟩ _, by omega, grown_setCell HG4.out (by show w.heap.size ≤ go; omega) _⟩
def PfPost (B g : Nat) (v : Value) (w : World) (e : Ending) (w' : World) : Prop := ∃ (u1 u2 : Value) (ps ws : List Int) (k' : Nat), e = .returned (.tuple #[u1, u2]) ∧ Ints w' w.heap.size w'.heap.size u1 ps ∧ Ints w' w.heap.size w'.heap.size u2 ws ∧ Rdr w' B k' g v ∧ w.grownBy w' (some g)
def DlPost (w : World) (e : Ending) (w' : World) : Prop := ∃ (u1 u2 : Value) (ps ws : List Int), e = .returned (.tuple #[u1, u2]) ∧ Ints w' w.heap.size w'.heap.size u1 ps ∧ Ints w' w.heap.size w'.heap.size u2 ws ∧ Below w.heap.size w w'
set_option maxRecDepth 100000 in
set_option maxHeartbeats 4000000 in
theorem parentsFor_any (B k g : Nat) (v : Value) (m : Int) (w : World) (h : Rdr w B k g v) (hk : k ≤ 800000) :
    Calls Try.prog 65 #[v, .int .i64 m] w fun e w' => PfPost B g v w e w' := by
  have hg0 := h.lt
  go_enter Try.func65, Try.ntmps65
  go_wp2_with fail
  refine (someLengths_any B k g v m w h (by omega)).mono ?_
  rintro e w1 ⟨u2, ws, k1, rfl, ho1, hwl, hwr, hr1, hk1, bg1⟩
  have hfo := ho1.form
  obtain ⟨A2, c2, rfl, _, _⟩ := hfo
  have HW1 := Lib.hid ho1.ints
  have HWR := Lib.hid hwr
  have hz1 := bg1.size
  have HG1 := Lib.hid bg1
  clear ho1 hwr h bg1
  go_wp2_with fail
  refine (someLengths_any B k1 g v 8 w1 hr1 (by omega)).mono ?_
  rintro e w2 ⟨u1, ps, k2, rfl, ho2, hpl, hpr, hr2, hk2, bg2⟩
  have HO0 := Lib.hid ho2
  have HPR := Lib.hid hpr
  have HR0 := Lib.hid hr2
  have HG0 := Lib.hid (grown_trans HG1.out bg2)
  have HW0 := Lib.hid (HW1.out.kept (Kept.of_grown bg2 (Nat.le_refl _) (.inl (by omega))))
  have hz2 := bg2.size
  clear ho2 hpr hr1 hr2 bg2 HG1 HW1
  go_wp2
  go_loopw [7, 8] (fun o i wr => ∃ (i' k' : Nat) (ps : List Int), i = .int .i64 i' ∧ i' ≤ 6 ∧ k' ≤ k2 + 2 * i' ∧ OwnI wr w1.heap.size 3 o ps ∧ ps.length ≤ 7 + i' ∧ Hid (∀ x ∈ ps, 0 ≤ x ∧ x ≤ 401) ∧ Hid (Rdr wr B k' g v) ∧ Hid (w.grownBy wr (some g)) ∧ Hid (Ints wr w.heap.size w1.heap.size (.slice A2 ws.length c2) ws) ∧ w1.heap.size ≤ wr.heap.size) (fun _ i _ => 6 - (intOf i).toNat)
  case atStart => exact ⟨0, k2, ps, rfl, by omega, by omega, HO0.out, by omega, HPR.out, HR0.out, HG0.out, HW0.out, hz2⟩
  case round =>
    clear HO0 HPR HR0 HG0 HW0 hz2 hpl
    obtain ⟨i, k3, ps, rfl, hi6, hk3, hown, hpl, HX, HR, HG, HW, hzr⟩ := hrel
    have hfo := hown.form
    obtain ⟨A, c, rfl, hc, hm⟩ := hfo
    have HO := Lib.hid hown
    clear hown
    have hzw := HG.out.size
    by_cases hi : i < 6
    rotate_left
    · have hni : ¬ (i : Int) < 6 := by omega
      go_wp2
      go_ret2
      exact ⟨_, _, ps, ws, k3, rfl, HO.out.ints.wide (by omega) (Nat.le_refl _), HW.out.wide (Nat.le_refl _) (by omega), HR.out, HG.out⟩
    · have hi1 : (i : Int) < 6 := by omega
      go_wp2_with fail
      refine (sTotal_anyS _ _ _ ps wr HO.out.ints (by omega) (fun j hj => by have := rng_gi HX.out j hj; omega)).mono ?_
      rintro e w8 ⟨rfl, hw8⟩
      subst hw8
      obtain ⟨s1, hs1⟩ : ∃ s, s = sumI ps ps.length := ⟨_, rfl⟩
      rw [← hs1]
      clear hs1
      go_wp2_with fail
      refine (sTotal_anyS _ _ _ ws wr HW.out (by omega) (fun j hj => by have := rng_gi HWR.out j hj; omega)).mono ?_
      rintro e w8 ⟨rfl, hw8⟩
      subst hw8
      obtain ⟨s2, hs2⟩ : ∃ s, s = sumI ws ws.length := ⟨_, rfl⟩
      rw [← hs2]
      clear hs2
      by_cases hs : s1 < s2
      rotate_left
      · go_wp2
        go_ret2
        exact ⟨_, _, ps, ws, k3, rfl, HO.out.ints.wide (by omega) (Nat.le_refl _), HW.out.wide (Nat.le_refl _) (by omega), HR.out, HG.out⟩
      · go_wp2_with fail
        refine (pick_any B k3 g v 8 _ HR.out (by omega) (by omega)).mono ?_
        rintro e w3 ⟨y, rfl, hy, hr3, bo1⟩
        have HR3 := Lib.hid hr3
        have HO3 := Lib.hid (HO.out.grownZ (grown_only bo1) (by omega))
        have HG3 := Lib.hid (grown_trans HG.out (grown_only bo1))
        have HW3 := Lib.hid (HW.out.kept (Kept.of_grown (grown_only bo1) (by omega) (.inl (by omega))))
        have hz3 : wr.heap.size ≤ w3.heap.size := (grown_only bo1).size
        clear hy hr3 bo1 HO HG HR HW
        by_cases hy0 : y > 0
        rotate_left
        · go_wp2
          go_ret2
          exact ⟨_, _, ps, ws, k3 + 1, rfl, HO3.out.ints.wide (by omega) (Nat.le_refl _), HW3.out.wide (Nat.le_refl _) (by omega), HR3.out, HG3.out⟩
        · go_wp2_with fail
          refine (pick_any B (k3 + 1) g v 60 _ HR3.out (by omega) (by omega)).mono ?_
          rintro e w4 ⟨y2, rfl, hy2, hr4, bo2⟩
          have y2r := hy2.rng (m := 60) (by omega) (by omega)
          have HR4 := Lib.hid hr4
          have HO4 := Lib.hid (HO3.out.grownZ (grown_only bo2) (by omega))
          have HG4 := Lib.hid (grown_trans HG3.out (grown_only bo2))
          have HW4 := Lib.hid (HW3.out.kept (Kept.of_grown (grown_only bo2) (by omega) (.inl (by omega))))
          have hz4 : w3.heap.size ≤ w4.heap.size := (grown_only bo2).size
          have hz14 : w1.heap.size ≤ w4.heap.size := by omega
          clear hy2 hr4 bo2 HO3 HG3 HR3 HW3
          go_wp2_with (at_builtin; refine wpList_appendI SlI _ rfl (.tmp 30) (.tmp 34) rfl (1 + y2) w1.heap.size _ ps rfl rfl HO4.out ⟨by omega, by omega⟩ (by omega) hz14 ?_; intro v' w6 ho6 hg6; have HO6 := Lib.hid ho6; have HR6 := Lib.hid (HR4.out.grewZ hg6 (by omega)); have HG6 := Lib.hid (grown_thenZ HG4.out hg6.below (by omega)); have HW6 := Lib.hid (HW4.out.below hg6.below (Nat.le_refl _)); have hz6 : w4.heap.size ≤ w6.heap.size := hg6.size; clear ho6 hg6)
          go_roundw
          case rel => exact ⟨i + 1, k3 + 1 + 1, ps ++ [1 + y2], by go_num, by omega, by omega, HO6.out, by rw [List.length_append, List.length_singleton]; omega, rng_snoc HX.out ⟨by omega, by omega⟩, HR6.out, HG6.out, HW6.out, by omega⟩
          case measure => simp [intOf]; omega
set_option maxRecDepth 100000 in
set_option maxHeartbeats 2000000 in
theorem DrawLeastSpliced_any (v : Value) (xs : List Int) (w : World) (h : Bytes w 0 w.heap.size v xs) :
    Calls Try.prog 27 #[v] w fun e w' => DlPost w e w' := by
  have hv : ∃ A n c, v = .slice A n c := by obtain ⟨A, c, e, _⟩ := h; exact ⟨A, _, c, e⟩
  obtain ⟨A0, n0, c0, rfl⟩ := hv
  go_enter Try.func27, Try.ntmps27
  go_wp2_with fail
  refine (newReader_any _ xs w h).mono ?_
  rintro e w2 ⟨rv, rfl, hr2, bx⟩
  have hz2 := hr2.lt
  have HB2 := Lib.hid bx
  clear h bx
  go_wp2_with fail
  refine (one_lit _ _ _ rv [4, 5, 3, 6] w2 _ _ _ hr2 (by omega) rfl rfl rfl (by simp) (by simp) (by unfold I64; simp)).mono ?_
  rintro e w3 ⟨q, rfl, hq, hr3, bg3⟩
  have HB3 := Lib.hid (HB2.out.trans (below_of_grown bg3 (Nat.le_refl _) (by omega)))
  have hz3 := bg3.size
  clear hr2 HB2 bg3 hq
  go_wp2_with fail
  refine (parentsFor_any _ _ _ rv q w3 hr3 (by omega)).mono ?_
  rintro e w4 ⟨u1, u2, ps, ws, k4, rfl, hi1, hi2, hr4, bg4⟩
  have HB4 := Lib.hid (HB3.out.trans (below_of_grown bg4 (Nat.le_refl _) (by omega)))
  have H1 := Lib.hid (hi1.wide (show w.heap.size ≤ w3.heap.size by omega) (Nat.le_refl _))
  have H2 := Lib.hid (hi2.wide (show w.heap.size ≤ w3.heap.size by omega) (Nat.le_refl _))
  clear hr3 hr4 HB3 bg4 hi1 hi2
  go_wp2
  go_ret2
  exact ⟨u1, u2, ps, ws, rfl, H1.out, H2.out, HB4.out⟩
end Go.Proofs.Yteckjiaaikdghaa
