/-
  Lemmas and contracts of single functions of this program, used by the proofs of its laws: what each call returns and what becomes of memory. Conditions: the hypotheses of each theorem.
-/
import Derived.Test.YteckjiaaikdghaaDrawR
import Derived.Test.YteckjiaaikdghaaGroR
namespace Go.Proofs.Yteckjiaaikdghaa
open Go.RowKit
attribute [local go_sem ↓] Go.wp_at_zero Go.wp_at_succ

theorem OwnI.grownK {w w' : World} {base e g : Nat} {v : Value} {xs : List Int} (h : OwnI w base e v xs) (hg : w.grownBy w' (some g)) (hlt : g < base) : OwnI w' base e v xs :=
  h.kept (Kept.of_grown hg (Nat.le_refl _) (.inl hlt))
theorem OwnR.grownK {w w' : World} {base s tS tI g : Nat} {v : Value} {xs : List (List Int)} (h : OwnR w base s tS tI v xs) (hg : w.grownBy w' (some g)) (hlt : g < base) (hs : s ≤ w.heap.size) : OwnR w' base s tS tI v xs :=
  h.kept (Kept.of_grown hg hs (.inl hlt))
theorem Rdr.grewK {base : Nat} {v u u' : Value} {W w1 : World} {B k g : Nat} (h : Rdr W B k g v) (hg : Grew base u u' W w1) (hlt : g < base) : Rdr w1 B k g v := by
  have h0 := h.lt
  exact h.kept (hg.below.block g hlt) fun j _ hj => hg.below.block j (by omega)
theorem grown_thenK {a b c : World} {B g : Nat} (h : a.grownBy b (some g)) (k : Below B b c) (hB : a.heap.size ≤ B) : a.grownBy c (some g) :=
  ⟨k.os.trans h.os, k.tape.trans h.tape, k.output.trans h.output, Nat.le_trans h.size k.size, fun i hi hn => (k.block i (by omega)).trans (h.block i hi hn)⟩
theorem OwnI.twoK {w : World} {base e : Nat} {y z : Int} (hb : base ≤ w.heap.size) (hy : I64 y) (hz : I64 z) : OwnI (w.alloc (.cells #[.int .i64 y, .int .i64 z] e)) base e (.slice (some ⟨w.heap.size, 0, none⟩) 2 2) [y, z] :=
  ⟨⟨by simp, .inr ⟨w.heap.size, 2, _, rfl, hb, heap_alloc_new w _, Nat.le_refl _, by simp [maxLen], by simp, by simp⟩⟩, fun x hx => by
    rcases List.mem_cons.1 hx with rfl | hx
    · exact hy
    · rw [List.mem_singleton.1 hx]; exact hz⟩
theorem alloc_setCell_block {w : World} {o : Obj} {a : Addr} {v : Value} (ha : a.block < w.heap.size) (k : Nat) : ((w.setCell a v).alloc o).heap[k]? = ((w.alloc o).setCell a v).heap[k]? := by
  simp only [World.setCell, World.alloc, Array.getElem?_modify, Array.getElem?_push, Array.size_modify]
  by_cases h1 : k = w.heap.size
  · subst h1
    rw [if_pos rfl, if_neg (by omega), if_pos rfl]
  · rw [if_neg h1, if_neg h1]
def SkPost (B k g : Nat) (v : Value) (w : World) (e : Ending) (w' : World) : Prop := ∃ (u : Value) (xs : List Int) (k' : Nat), e = .returned u ∧ OwnI w' w.heap.size 3 u xs ∧ Rdr w' B k' g v ∧ k' ≤ k + 10 ∧ w.grownBy w' (some g)
def KsPost (g : Nat) (w : World) (e : Ending) (w' : World) : Prop := ∃ (u : Value) (L : List (List Int)), e = .returned u ∧ IRows w' w.heap.size w'.heap.size u L ∧ w.grownBy w' (some g)
set_option maxRecDepth 100000 in
set_option maxHeartbeats 4000000 in
theorem someKnives_any (B k g : Nat) (v : Value) (w : World) (h : Rdr w B k g v) (hk : k ≤ 900000) :
    Calls Try.prog 104 #[v] w fun e w' => SkPost B k g v w e w' := by
  have hg0 := h.lt
  have b1 : Below w.heap.size w (w.alloc (.cells #[] 3)) := (Below.refl _ _).alloc (Nat.le_refl _) _
  have HE0 := Lib.hid (OwnI.empty w w.heap.size 3 (Nat.le_refl _))
  have hr1 := h.below b1
  have HG1 := Lib.hid (grown_below b1 (some g))
  clear h b1
  go_enter Try.func104, Try.ntmps104
  go_wp2_with fail
  obtain ⟨wa, hwa⟩ : ∃ wa, wa = w.alloc (.cells #[] 3) := ⟨_, rfl⟩
  have HZa := Lib.hid (show wa.heap.size = w.heap.size + 1 by rw [hwa]; simp)
  rw [← hwa] at HE0 hr1 HG1 ⊢
  clear hwa
  refine (one_lit B k g v [3, 4, 5, 2, 1, 0, 7] wa _ _ _ hr1 (by omega) rfl rfl HZa.out.symm (by simp) (by simp) (by unfold I64; simp)).mono ?_
  rintro e w2 ⟨n0, rfl, hn, hr2, bg1⟩
  have hn0 : 0 ≤ n0 ∧ n0 ≤ 7 := by simp only [List.mem_cons, List.not_mem_nil, or_false] at hn; omega
  obtain ⟨n0, rfl⟩ := Int.eq_ofNat_of_zero_le hn0.1
  have HO0 := Lib.hid (HE0.out.grownK bg1 (by omega))
  have HG0 := Lib.hid (grown_trans HG1.out bg1)
  have HR0 := Lib.hid hr2
  clear hr1 hr2 bg1 hn HE0 HG1
  go_wp2
  go_loopw [3, 4, 5] (fun o at_ n wr => ∃ (n' k' : Nat) (p : Int) (xs : List Int), n = .int .i64 n' ∧ n' ≤ 7 ∧ k' + n' ≤ k + 1 + 7 ∧ at_ = .int .i64 p ∧ 0 ≤ p ∧ p + 8 * n' ≤ 56 ∧ OwnI wr w.heap.size 3 o xs ∧ xs.length + n' ≤ 7 ∧ Hid (Rdr wr B k' g v) ∧ Hid (w.grownBy wr (some g))) (fun _ _ n _ => (intOf n).toNat)
  case atStart => exact ⟨n0, k + 1, 0, [], rfl, by omega, by omega, rfl, by omega, by omega, HO0.out, by simp; omega, HR0.out, HG0.out⟩
  case round =>
    clear HO0 HG0 HR0 hn0
    obtain ⟨n, k1, p, xs, rfl, hn7, hkn, rfl, hp0, hpn, hown, hxl, HR, HG⟩ := hrel
    have hfo := hown.form
    obtain ⟨A, c, rfl, hc, hm⟩ := hfo
    have HO := Lib.hid hown
    have hzr := HG.out.size
    clear hown
    by_cases hgo : 0 < n
    · have hn1 : (n : Int) > 0 := by omega
      have hn2 : (0 : Int) < n := by omega
      go_wp2_with (at_builtin; refine wpList_appendI SlI _ rfl (.tmp 14) (.tmp 16) rfl p w.heap.size _ xs rfl rfl HO.out ⟨by omega, by omega⟩ (by omega) hzr ?_; intro v' w6 ho6 hg6; have HO6 := Lib.hid ho6; have HR6 := Lib.hid (HR.out.grewK hg6 (by omega)); have HG6 := Lib.hid (grown_thenK HG.out hg6.below (by omega)); clear ho6 hg6)
      refine (pick_any B k1 g v 8 _ HR6.out (by omega) (by omega)).mono ?_
      rintro e w3 ⟨y1, rfl, hy1, hr3, bo1⟩
      have y1r := hy1.rng (m := 8) (by omega) (by omega)
      have HR3 := Lib.hid hr3
      have HO3 := Lib.hid (HO6.out.grownK (grown_only bo1) (by omega))
      have HG3 := Lib.hid (grown_trans HG6.out (grown_only bo1))
      clear hy1 hr3 bo1 HO HG HR HO6 HR6 HG6
      go_wp2
      go_roundw
      case rel => exact ⟨n - 1, k1 + 1, p + 1 + y1, xs ++ [p], by go_num, by omega, by omega, rfl, by omega, by omega, HO3.out, by rw [List.length_append, List.length_singleton]; omega, HR3.out, HG3.out⟩
      case measure => simp [intOf]; omega
    · have hn2 : ¬ (0 : Int) < n := by omega
      have hn3 : ¬ 0 < n := hgo
      clear hgo
      go_wp2
      go_ret
      exact ⟨_, xs, k1, rfl, HO.out, HR.out, by omega, HG.out⟩
set_option maxRecDepth 100000 in
set_option maxHeartbeats 4000000 in
theorem knifeSets_any (B k g : Nat) (v : Value) (m : Int) (w : World) (h : Rdr w B k g v) (hk : k ≤ 800000) :
    Calls Try.prog 68 #[v, .int .i64 m] w fun e w' => KsPost g w e w' := by
  have hg0 := h.lt
  have b1 : Below w.heap.size w (w.alloc (.cells #[] 22)) := (Below.refl _ _).alloc (Nat.le_refl _) _
  have HE0 := Lib.hid (OwnR.empty w w.heap.size 22 3 (Nat.le_refl _))
  have hr1 := h.below b1
  have HG1 := Lib.hid (grown_below b1 (some g))
  clear h b1
  go_enter Try.func68, Try.ntmps68
  go_wp2_with fail
  obtain ⟨wa, hwa⟩ : ∃ wa, wa = w.alloc (.cells #[] 22) := ⟨_, rfl⟩
  have HZa := Lib.hid (show wa.heap.size = w.heap.size + 1 by rw [hwa]; simp)
  rw [← hwa] at HE0 hr1 HG1 ⊢
  clear hwa
  refine (one_lit B k g v [3, 4, 2, 5, 1, 0, 8] wa _ _ _ hr1 (by omega) rfl rfl HZa.out.symm (by simp) (by simp) (by unfold I64; simp)).mono ?_
  rintro e w2 ⟨n0, rfl, hn, hr2, bg1⟩
  have hn0 : 0 ≤ n0 ∧ n0 ≤ 8 := by simp only [List.mem_cons, List.not_mem_nil, or_false] at hn; omega
  obtain ⟨n0, rfl⟩ := Int.eq_ofNat_of_zero_le hn0.1
  have HO0 := Lib.hid ((HE0.out.grownK bg1 (by omega) (by have := HZa.out; omega)).wide (Nat.le_refl _) (show w.heap.size + 1 ≤ w2.heap.size by have := HZa.out; have := bg1.size; omega))
  have HG0 := Lib.hid (grown_trans HG1.out bg1)
  have HR0 := Lib.hid hr2
  clear hr1 hr2 bg1 hn HE0 HG1
  go_wp2
  go_loopw [5, 6] (fun o n wr => ∃ (n' k' : Nat) (L : List (List Int)), n = .int .i64 n' ∧ n' ≤ 8 ∧ k' + 10 * n' ≤ k + 1 + 80 ∧ OwnR wr w.heap.size wr.heap.size 22 3 o L ∧ L.length + n' ≤ 8 ∧ Hid (Rdr wr B k' g v) ∧ Hid (w.grownBy wr (some g))) (fun _ n _ => (intOf n).toNat)
  case atStart => exact ⟨n0, k + 1, [], rfl, by omega, by omega, HO0.out, by simp; omega, HR0.out, HG0.out⟩
  case round =>
    clear HO0 HG0 HR0 hn0
    obtain ⟨n, k1, L, rfl, hn7, hkn, hown, hxl, HR, HG⟩ := hrel
    have hfo := hown.form
    obtain ⟨A, c, rfl, hc, hm⟩ := hfo
    have HO := Lib.hid hown
    have hzr := HG.out.size
    clear hown
    by_cases hgo : 0 < n ∧ (L.length : Int) < m
    · obtain ⟨hn0, hlm⟩ := hgo
      have hn1 : (n : Int) > 0 := by omega
      have hn2 : (0 : Int) < n := by omega
      go_wp2_with fail
      refine (someKnives_any B k1 g v _ HR.out (by omega)).mono ?_
      rintro e w3 ⟨u, xs, k2, rfl, ho3, hr3, hk2, bg3⟩
      have hfo3 := ho3.form
      obtain ⟨A3, c3, rfl, _, _⟩ := hfo3
      have HR3 := Lib.hid hr3
      have HX3 := Lib.hid ho3
      have HO3 := Lib.hid (HO.out.grownK bg3 (by omega) (Nat.le_refl _))
      have HG3 := Lib.hid (grown_trans HG.out bg3)
      have hz3 : wr.heap.size ≤ w3.heap.size := bg3.size
      clear hr3 ho3 bg3 HO HG HR
      go_wp2_with (at_builtin; refine wpList_appendR SlR (by decide) _ rfl (.tmp 21) (.tmp 24) rfl _ _ _ w.heap.size wr.heap.size _ L xs rfl rfl HO3.out HX3.out (by omega) hzr hz3 ?_; intro v' w6 ho6 hg6; have HO6 := Lib.hid ho6; have HR6 := Lib.hid (HR3.out.grewK hg6 (by omega)); have HG6 := Lib.hid (grown_thenK HG3.out hg6.below (by omega)); clear ho6 hg6)
      go_roundw
      case rel => exact ⟨n - 1, k2, L ++ [xs], by go_num, by omega, by omega, HO6.out, by rw [List.length_append, List.length_singleton]; omega, HR6.out, HG6.out⟩
      case measure => simp [intOf]; omega
    · have hex : n = 0 ∨ (0 < n ∧ ¬ (L.length : Int) < m) := by omega
      have Hgo := Lib.hid hgo
      clear hgo
      rcases hex with hex | ⟨hex, hex2⟩
      · have hn2 : ¬ (0 : Int) < n := by omega
        have Hex := Lib.hid hex
        clear hex
        by_cases hx0 : L.length = 0
        · have hx1 : ¬ (0 : Int) < (L.length : Int) := by omega
          have hx2 : ¬ 0 < L.length := by omega
          have Hx0 := Lib.hid hx0
          clear hx0
          go_wp2
          go_ret
          exact ⟨_, L, rfl, HO.out.rows, HG.out⟩
        · have hx1 : (0 : Int) < (L.length : Int) := by omega
          have hx2 : 0 < L.length := by omega
          go_wp2_with fail
          refine (pick_any B k1 g v 20 _ HR.out (by omega) (by omega)).mono ?_
          rintro e w3 ⟨y, rfl, hy, hr3, bo1⟩
          have HO3 := Lib.hid (HO.out.grownK (grown_only bo1) (by omega) (Nat.le_refl _))
          have HG3 := Lib.hid (grown_trans HG.out (grown_only bo1))
          have hz3 : wr.heap.size ≤ w3.heap.size := (grown_only bo1).size
          clear hy hr3 bo1 HO HG HR
          obtain ⟨e0, he0⟩ : ∃ e, (y == 0) = e := ⟨_, rfl⟩
          cases e0
          · go_wp2
            go_ret
            exact ⟨_, L, rfl, HO3.out.rows.wide (Nat.le_refl _) hz3, HG3.out⟩
          · have hbd : Below w3.heap.size w3 (w3.alloc (.cells #[.int .i64 3, .int .i64 3] 3)) := (Below.refl _ _).alloc (Nat.le_refl _) _
            have hu := OwnI.twoK (w := w3) (base := w3.heap.size) (e := 3) (y := 3) (z := 3) (Nat.le_refl _) ⟨by omega, by omega⟩ ⟨by omega, by omega⟩
            obtain ⟨go, hgo, hgb, hgs, ⟨xc, hc1⟩, hf1, hst⟩ := (HO3.out.wide (Nat.le_refl _) hz3).kept (.of_below hbd (Nat.le_refl _)) |>.putRow (k := 0) (s' := w3.heap.size + 1) (by decide) hu (by omega) (by omega) (by simp) hx2
            subst hgo
            have HST := Lib.hid hst
            clear hu hst hbd
            go_wp2
            go_ret
            exact ⟨_, L.set 0 [3, 3], rfl, ((HST.out.kept fun k _ _ => alloc_setCell_block (by show go < w3.heap.size; omega) k).rows).wide (Nat.le_refl _) (by simp [World.setCell]), grown_trans (grown_setCell HG3.out (by show w.heap.size ≤ go; omega) _) (grown_below ((Below.refl _ _).alloc (Nat.le_refl _) _) (some g))⟩
      · have hn2 : (0 : Int) < n := by omega
        by_cases hx0 : L.length = 0
        · have hx1 : ¬ (0 : Int) < (L.length : Int) := by omega
          have hx2 : ¬ 0 < L.length := by omega
          have Hx0 := Lib.hid hx0
          clear hx0
          go_wp2
          go_ret
          exact ⟨_, L, rfl, HO.out.rows, HG.out⟩
        · have hx1 : (0 : Int) < (L.length : Int) := by omega
          have hx2 : 0 < L.length := by omega
          go_wp2_with fail
          refine (pick_any B k1 g v 20 _ HR.out (by omega) (by omega)).mono ?_
          rintro e w3 ⟨y, rfl, hy, hr3, bo1⟩
          have HO3 := Lib.hid (HO.out.grownK (grown_only bo1) (by omega) (Nat.le_refl _))
          have HG3 := Lib.hid (grown_trans HG.out (grown_only bo1))
          have hz3 : wr.heap.size ≤ w3.heap.size := (grown_only bo1).size
          clear hy hr3 bo1 HO HG HR
          obtain ⟨e0, he0⟩ : ∃ e, (y == 0) = e := ⟨_, rfl⟩
          cases e0
          · go_wp2
            go_ret
            exact ⟨_, L, rfl, HO3.out.rows.wide (Nat.le_refl _) hz3, HG3.out⟩
          · have hbd : Below w3.heap.size w3 (w3.alloc (.cells #[.int .i64 3, .int .i64 3] 3)) := (Below.refl _ _).alloc (Nat.le_refl _) _
            have hu := OwnI.twoK (w := w3) (base := w3.heap.size) (e := 3) (y := 3) (z := 3) (Nat.le_refl _) ⟨by omega, by omega⟩ ⟨by omega, by omega⟩
            obtain ⟨go, hgo, hgb, hgs, ⟨xc, hc1⟩, hf1, hst⟩ := (HO3.out.wide (Nat.le_refl _) hz3).kept (.of_below hbd (Nat.le_refl _)) |>.putRow (k := 0) (s' := w3.heap.size + 1) (by decide) hu (by omega) (by omega) (by simp) hx2
            subst hgo
            have HST := Lib.hid hst
            clear hu hst hbd
            go_wp2
            go_ret
            exact ⟨_, L.set 0 [3, 3], rfl, ((HST.out.kept fun k _ _ => alloc_setCell_block (by show go < w3.heap.size; omega) k).rows).wide (Nat.le_refl _) (by simp [World.setCell]), grown_trans (grown_setCell HG3.out (by show w.heap.size ≤ go; omega) _) (grown_below ((Below.refl _ _).alloc (Nat.le_refl _) _) (some g))⟩
set_option maxRecDepth 100000 in
set_option maxHeartbeats 2000000 in
theorem DrawBestOrder_any (v : Value) (xs : List Int) (w : World) (h : Bytes w 0 w.heap.size v xs) :
    Calls Try.prog 32 #[v] w fun e w' => ∃ (u : Value) (L : List (List Int)), e = .returned u ∧ IRows w' w.heap.size w'.heap.size u L ∧ Below w.heap.size w w' := by
  have hv : ∃ A n c, v = .slice A n c := by obtain ⟨A, c, e, _⟩ := h; exact ⟨A, _, c, e⟩
  obtain ⟨A0, n0, c0, rfl⟩ := hv
  go_enter Try.func32, Try.ntmps32
  go_wp2_with fail
  refine (newReader_any _ xs w h).mono ?_
  rintro e w2 ⟨rv, rfl, hr2, bx⟩
  have hz2 := hr2.lt
  have HB2 := Lib.hid bx
  clear h bx
  go_wp2_with fail
  refine (one_lit _ _ _ rv [4, 5, 3, 6] w2 _ _ _ hr2 (by omega) rfl rfl rfl (by simp) (by simp) (by unfold I64; simp)).mono ?_
  rintro e w3 ⟨q, rfl, hq, hr3, bg3⟩
  have HB3 := Lib.hid (HB2.out.trans (below_of_grown bg3 (Nat.le_refl _) (by omega)))
  have hz3 := bg3.size
  clear hr2 HB2 bg3 hq
  go_wp2_with fail
  refine (knifeSets_any _ _ _ rv q w3 hr3 (by omega)).mono ?_
  rintro e w4 ⟨u, L, rfl, hi, bg4⟩
  have HB4 := Lib.hid (HB3.out.trans (below_of_grown bg4 (Nat.le_refl _) (by omega)))
  have H1 := Lib.hid (hi.wide (show w.heap.size ≤ w3.heap.size by omega) (Nat.le_refl _))
  clear hr3 HB3 bg4 hi
  go_wp2
  go_ret
  exact ⟨u, L, rfl, H1.out, HB4.out⟩
end Go.Proofs.Yteckjiaaikdghaa
