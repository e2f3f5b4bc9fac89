/-
  Lemmas and contracts of single functions of this program, used by the proofs of its laws: what each call returns and what becomes of memory. Conditions: the hypotheses of each theorem.
-/
import Derived.Test.YtkgepklapglmdaaGreatDoorTxt1
import Derived.Test.YtkgepklapglmdaaGreatDoorMlK
namespace Go.Proofs.YtkgepklapglmdaaGreatDoor
open Go.RowKit
attribute [local go_sem ↓] Go.wp_at_zero Go.wp_at_succ

set_option maxHeartbeats 1000000 in
theorem of_any (B k g lo hi : Nat) (v u : Value) (xs : List (List UInt8)) (w : World) (h : Rdr w B k g v) (hx : Strs w lo hi u xs) (hgx : hi ≤ g ∨ g < lo) (hk : k ≤ 1000000) (hne : 1 ≤ xs.length) (hl : xs.length ≤ 1000) :
    Calls Tryz.prog 54 #[v, u] w fun e w' => ∃ r, e = .returned (.string (TB r)) ∧ r ∈ xs ∧ Rdr w' B (k + 1) g v ∧ Only g (g + 1) w w' := by
  obtain ⟨A, c, rfl, hc, hm⟩ := hx.form
  go_enter Tryz.func54, Tryz.ntmps54
  go_wp2_with fail
  refine (pick_any B k g v _ w h hk (by omega)).mono ?_
  rintro e w1 ⟨r, rfl, hp, hr1, hon⟩
  obtain ⟨hr0, hrn⟩ := hp.2 (by omega)
  obtain ⟨i, rfl⟩ := Int.eq_ofNat_of_zero_le hr0
  have hx1 := hx.kept (hon.kept (by omega))
  obtain ⟨b, o, rfl, _, _, hcell⟩ := hx1.cell (k := i) (by omega)
  have Hmem := Lib.hid (show gs xs i ∈ xs by rw [gs_eq (by omega)]; exact List.getElem_mem _)
  clear hp
  go_wp2_with fail
  go_ret
  exact ⟨_, rfl, Hmem.out, hr1, hon⟩
theorem of_lit (B k g : Nat) (v : Value) (xs : List (List UInt8)) (w : World) (cs : Array Value) (n b : Nat) (h : Rdr w B k g v) (hk : k ≤ 1000000) (hcs : cs = (sV xs).toArray) (hn : n = xs.length) (hb : b = w.heap.size) (hne : 1 ≤ xs.length) (hl : xs.length ≤ 1000) :
    Calls Tryz.prog 54 #[v, .slice (some ⟨b, 0, none⟩) n n] (w.alloc (.cells cs 9)) fun e w' => ∃ r, e = .returned (.string (TB r)) ∧ r ∈ xs ∧ Rdr w' B (k + 1) g v ∧ w.grownBy w' (some g) := by
  have hg := h.lt
  subst hb
  refine (of_any B k g w.heap.size (w.heap.size + 1) v _ xs _ (h.below ((Below.refl _ _).alloc (Nat.le_refl _) _)) (strs_made w 9 xs cs (by rw [hcs]) (by unfold maxLen; omega) n hn) (by omega) hk hne hl).mono ?_
  rintro e w1 ⟨r, rfl, hr, hr1, hon⟩
  exact ⟨r, rfl, hr, hr1, hon.os, hon.tape, hon.output, by rw [hon.size]; simp, fun i hi hne => (hon.block i (by have : i ≠ g := fun e => hne (by rw [e]); omega)).trans (Below.heap_alloc w _ i hi)⟩
def MuPost (B k g : Nat) (v : Value) (l : List UInt8) (w : World) (e : Ending) (w' : World) : Prop := ∃ (l' : List UInt8) (k' : Nat), e = .returned (.string (TB l')) ∧ l'.length ≤ l.length + 1 ∧ k' ≤ k + 3 ∧ Rdr w' B k' g v ∧ w.grownBy w' (some g)
set_option maxRecDepth 100000 in
set_option maxHeartbeats 4000000 in
theorem mutate_any (B k g : Nat) (v : Value) (l : List UInt8) (s : ByteArray) (hs : s = TB l) (w : World) (h : Rdr w B k g v) (hk : k ≤ 900000) (hl : l.length ≤ 1000000) :
    Calls Tryz.prog 97 #[v, .string s] w fun e w' => MuPost B k g v l w e w' := by
  have hg0 := h.lt
  have hva : ∃ gg, v = .pointer gg := by obtain ⟨_, _, _, _, e, _⟩ := h; exact ⟨_, e⟩
  obtain ⟨gg, rfl⟩ := hva
  have hsz : s.size = l.length := by rw [hs, TB_size]
  have HS := Lib.hid hs
  obtain ⟨n, hn⟩ : ∃ n, n = s.size := ⟨_, rfl⟩
  have hsn : s.size = n := hn.symm
  have hnl : n ≤ l.length := by omega
  have hnl2 : l.length ≤ n := by omega
  have gn1 : IntKind.i64.wrap ((n : Int) + 1) = (n : Int) + 1 := IntWalk.i64_in _ (by omega)
  clear hs hsz hn
  go_enter Tryz.func97, Tryz.ntmps97
  go_wp2_with fail
  refine (pick_any B k g _ ((n : Int) + 1) w h (by omega) (by omega)).mono ?_
  rintro e w1 ⟨y, rfl, hy, hr1, bo1⟩
  have hy1 := hy.rng (m := (n : Int) + 1) (by omega) (by omega)
  obtain ⟨i, rfl⟩ := Int.eq_ofNat_of_zero_le hy1.1
  have hin : i ≤ n := by omega
  have HG1 := Lib.hid (grown_only bo1)
  have hz1 : w1.heap.size = w.heap.size := bo1.size
  have hz1' : g < w1.heap.size := by omega
  clear hy bo1 hz1
  go_wp2_with fail
  refine (pick_any B (k + 1) g _ 5 w1 hr1 (by omega) (by omega)).mono ?_
  rintro e w2 ⟨q, rfl, hq, hr2, bo2⟩
  have hq1 := hq.rng (m := 5) (by omega) (by omega)
  have HG2 := Lib.hid (grown_trans HG1.out (grown_only bo2))
  have HR2 := Lib.hid hr2
  have hz2 : w2.heap.size = w1.heap.size := bo2.size
  have hz2' : g < w2.heap.size := by omega
  clear hq bo2 hr1 hr2 HG1 hz2 h hy1
  have stay : ∀ W : World, W = w2 → MuPost B k g (.pointer gg) l w (.returned (.string s)) W := fun W hW => by
    subst hW
    exact ⟨l, k + 1 + 1, by rw [HS.out], by omega, by omega, HR2.out, HG2.out⟩
  have i0 : (0 : Int) ≤ (i : Int) := by omega
  have i2 : (i : Int) ≤ (n : Int) := by omega
  obtain ⟨E1, hE1⟩ : ∃ E, E = s.extract 0 i := ⟨_, rfl⟩
  have hex1 : s.extract 0 i = E1 := hE1.symm
  have HE1 := Lib.hid (show E1 = TB (l.take i) by rw [hE1, HS.out, TB_ext]; simp)
  have hs1 : E1.size ≤ n := by rw [HE1.out, TB_size, List.length_take]; omega
  clear hE1
  by_cases h01 : q = 0 ∨ q = 1
  · have hc01 : ((q == 0) = true) ∨ ((q == 0) = false ∧ (q == 1) = true) := by
      rcases h01 with h | h
      · exact .inl (beq_t h)
      · exact .inr ⟨beq_f (by omega), beq_t h⟩
    by_cases hlt : i < n
    · have i1 : (i : Int) < (n : Int) := by omega
      have ii1 : (0 : Int) ≤ (i : Int) + 1 := by omega
      have ii2 : (i : Int) + 1 ≤ (n : Int) := by omega
      have gi1 : IntKind.i64.wrap ((i : Int) + 1) = (i : Int) + 1 := IntWalk.i64_in _ (by omega)
      obtain ⟨E2, hE2⟩ : ∃ E, E = s.extract (i + 1) n := ⟨_, rfl⟩
      have hex2 : s.extract (i + 1) n = E2 := hE2.symm
      have HE2 := Lib.hid (show E2 = TB ((l.drop (i + 1)).take (n - (i + 1))) by rw [hE2, HS.out, TB_ext])
      have hs2 : E2.size ≤ n - (i + 1) := by rw [HE2.out, TB_size, List.length_take]; omega
      have hs1' : E1.size ≤ i := by rw [HE1.out, TB_size, List.length_take]; omega
      clear hE2 h01 stay
      rcases hc01 with q0 | ⟨q0, q1⟩
      all_goals go_wp2
      refine wp_region_held_drew (S := fun w' => True) (by kernel_rfl) ?_ (fun hHeld => ?_)
      · trivial
      refine wpAnyH_take (i := 0) (oi := ⟨some 20, _, _, _, _, _⟩) (v := _) rfl (by kernel_rfl) (by kernel_rfl) (by kernel_rfl) (fun _ _ _ h => h) (Or.inl ⟨by kernel_rfl, by intro w hSw; (try dsimp only at hSw); go_simp; try with_reducible rfl⟩) (by assumption) ?_
      simp only [Act.put, List.setIfInBounds_toArray, List.set_cons_zero, List.set_cons_succ]
      refine wpAnyH_take (i := 1) (oi := ⟨some 21, _, _, _, _, _⟩) (v := _) rfl (by kernel_rfl) (by kernel_rfl) (by kernel_rfl) (fun _ _ _ h => h) (Or.inl ⟨by kernel_rfl, by intro w hSw; (try dsimp only at hSw); go_simp; try with_reducible rfl⟩) (by assumption) ?_
      simp only [Act.put, List.setIfInBounds_toArray, List.set_cons_zero, List.set_cons_succ]
      refine wpAnyH_take (i := 2) (oi := ⟨some 22, _, _, _, _, _⟩) (v := _) rfl (by kernel_rfl) (by kernel_rfl) (by kernel_rfl) (fun _ _ _ h => h) (Or.inl ⟨by kernel_rfl, by intro w hSw; (try dsimp only at hSw); go_simp; try with_reducible rfl⟩) (by assumption) ?_
      simp only [Act.put, List.setIfInBounds_toArray, List.set_cons_zero, List.set_cons_succ]
      refine wpAnyH_take (i := 3) (oi := ⟨some 23, _, _, _, _, _⟩) (v := _) rfl (by kernel_rfl) (by kernel_rfl) (by kernel_rfl) (fun _ _ _ h => h) (Or.inl ⟨by kernel_rfl, by intro w hSw; (try dsimp only at hSw); go_simp; try with_reducible rfl⟩) (by assumption) ?_
      simp only [Act.put, List.setIfInBounds_toArray, List.set_cons_zero, List.set_cons_succ]
      refine wpAnyH_take (i := 7) (oi := ⟨some 27, _, _, _, _, _⟩) (v := _) rfl (by kernel_rfl) (by kernel_rfl) (by kernel_rfl) (fun _ _ _ h => h) (Or.inl ⟨by kernel_rfl, by intro w hSw; (try dsimp only at hSw); go_simp; try with_reducible rfl⟩) (by assumption) ?_
      simp only [Act.put, List.setIfInBounds_toArray, List.set_cons_zero, List.set_cons_succ]
      refine wpAnyH_take (i := 8) (oi := ⟨some 28, _, _, _, _, _⟩) (v := _) rfl (by kernel_rfl) (by kernel_rfl) (by kernel_rfl) (fun _ _ _ h => h) (Or.inl ⟨by kernel_rfl, by intro w hSw; (try dsimp only at hSw); go_simp; try with_reducible rfl⟩) (by assumption) ?_
      simp only [Act.put, List.setIfInBounds_toArray, List.set_cons_zero, List.set_cons_succ]
      refine wpAnyH_take (i := 9) (oi := ⟨some 29, _, _, _, _, _⟩) (v := _) rfl (by kernel_rfl) (by kernel_rfl) (by kernel_rfl) (fun _ _ _ h => h) (Or.inl ⟨by kernel_rfl, by intro w hSw; (try dsimp only at hSw); go_simp; try with_reducible rfl⟩) (by assumption) ?_
      simp only [Act.put, List.setIfInBounds_toArray, List.set_cons_zero, List.set_cons_succ]
      refine wpAnyH_take (i := 10) (oi := ⟨some 30, _, _, _, _, _⟩) (v := _) rfl (by kernel_rfl) (by kernel_rfl) (by kernel_rfl) (fun _ _ _ h => h) (Or.inl ⟨by kernel_rfl, by intro w hSw; (try dsimp only at hSw); go_simp; try with_reducible rfl⟩) (by assumption) ?_
      simp only [Act.put, List.setIfInBounds_toArray, List.set_cons_zero, List.set_cons_succ]
      refine wpAnyH_ready (rs := [4]) (by kernel_rfl) (by simp) ?_
      refine AllReadyH.cons (o := ⟨some 24, _, _, _, _, _⟩) rfl (fun K hK => ?_) AllReadyH.nil
      go_simp
      refine hK.out _ _ ?_ (fun hHeld2 => ?_)
      · trivial
      clear hK K hHeld
      have hHeld := hHeld2
      clear hHeld2
      try simp only [Act.put, List.setIfInBounds_toArray, List.set_cons_zero, List.set_cons_succ]
      refine wpAnyH_ready (rs := [5]) (by kernel_rfl) (by simp) ?_
      refine AllReadyH.cons (o := ⟨some 25, _, _, _, _, _⟩) rfl (fun K hK => ?_) AllReadyH.nil
      go_simp
      go_at_call 54
      rw [show (w2.alloc (.cells #[.string ⟨#[48]⟩, .string ⟨#[49]⟩, .string ⟨#[32]⟩, .string ⟨#[45]⟩, .string ⟨#[99]⟩, .string ⟨#[10]⟩, .string ⟨#[57]⟩] 9)).drew = w2.drew.alloc (.cells #[.string ⟨#[48]⟩, .string ⟨#[49]⟩, .string ⟨#[32]⟩, .string ⟨#[45]⟩, .string ⟨#[99]⟩, .string ⟨#[10]⟩, .string ⟨#[57]⟩] 9) from rfl]
      refine (of_lit B (k + 1 + 1) g _ [[48], [49], [32], [45], [99], [10], [57]] w2.drew _ _ _ HR2.out.drew (by omega) rfl rfl rfl (by simp) (by simp)).mono ?_
      rintro e x1 ⟨x, rfl, hx, hr3, bg3⟩
      have hxl : x.length = 1 := by simp only [List.mem_cons, List.not_mem_nil, or_false] at hx; rcases hx with rfl | rfl | rfl | rfl | rfl | rfl | rfl <;> rfl
      obtain ⟨zx, hzx⟩ : ∃ z, z = TB x := ⟨_, rfl⟩
      rw [← hzx]
      have hzs : zx.size = 1 := by rw [hzx, TB_size, hxl]
      obtain ⟨z1, hz1⟩ : ∃ z, z = E1 ++ zx := ⟨_, rfl⟩
      have hz1e : E1 ++ zx = z1 := hz1.symm
      have hz1s : z1.size ≤ i + 1 := by rw [hz1, ByteArray.size_append]; omega
      obtain ⟨z2, hz2⟩ : ∃ z, z = z1 ++ E2 := ⟨_, rfl⟩
      have hz2e : z1 ++ E2 = z2 := hz2.symm
      have hsa : E1.size + zx.size ≤ 9223372036854775807 := by omega
      have hsa1 : E1.size + 1 ≤ 9223372036854775807 := by omega
      have hsa2 : ¬ 9223372036854775807 < E1.size + 1 := by omega
      have hsb : z1.size + E2.size ≤ 9223372036854775807 := by omega
      have hsb2 : ¬ 9223372036854775807 < z1.size + E2.size := by omega
      have HZ2 := Lib.hid (show z2 = TB (l.take i ++ x ++ (l.drop (i + 1)).take (n - (i + 1))) by rw [hz2, hz1, HE1.out, hzx, HE2.out, TB_app, TB_app])
      have HFL := Lib.hid (show (l.take i ++ x ++ (l.drop (i + 1)).take (n - (i + 1))).length ≤ l.length + 1 by simp only [List.length_append, List.length_take, List.length_drop]; omega)
      have HR3 := Lib.hid hr3
      have HG3 := Lib.hid (grown_trans HG2.out (grown_drew bg3))
      clear hx hzx hz1 hz2 hr3 bg3
      go_wp2_with fail
      refine hK.out _ _ ?_ (fun hHeld2 => ?_)
      · trivial
      clear hK K hHeld
      have hHeld := hHeld2
      clear hHeld2
      try simp only [Act.put, List.setIfInBounds_toArray, List.set_cons_zero, List.set_cons_succ]
      refine wpAnyH_take (i := 6) (oi := ⟨some 26, _, _, _, _, _⟩) (v := _) rfl (by kernel_rfl) (by kernel_rfl) (by kernel_rfl) (fun _ _ _ h => h) (Or.inl ⟨by kernel_rfl, by intro w hSw; (try dsimp only at hSw); go_simp; try with_reducible rfl⟩) (by assumption) ?_
      simp only [Act.put, List.setIfInBounds_toArray, List.set_cons_zero, List.set_cons_succ]
      refine wpAnyH_take (i := 11) (oi := ⟨some 31, _, _, _, _, _⟩) (v := _) rfl (by kernel_rfl) (by kernel_rfl) (by kernel_rfl) (fun _ _ _ h => h) (Or.inl ⟨by kernel_rfl, by intro w hSw; (try dsimp only at hSw); go_simp; try with_reducible rfl⟩) (by assumption) ?_
      simp only [Act.put, List.setIfInBounds_toArray, List.set_cons_zero, List.set_cons_succ]
      refine wpAnyH_take (i := 12) (oi := ⟨some 4, _, _, _, _, _⟩) (v := _) rfl (by kernel_rfl) (by kernel_rfl) (by kernel_rfl) (fun _ _ _ h => h) (Or.inl ⟨by kernel_rfl, by intro w hSw; (try dsimp only at hSw); go_simp; try with_reducible rfl⟩) (by assumption) ?_
      simp only [Act.put, List.setIfInBounds_toArray, List.set_cons_zero, List.set_cons_succ]
      refine wpAnyH_done (by kernel_rfl) ?_ _
      focus
        clear hHeld
        go_wp2
        go_ret
        exact ⟨_, _, congrArg (fun z => Ending.returned (Value.string z)) HZ2.out, HFL.out, by omega, HR3.out, HG3.out⟩
      refine wp_region_held_drew (S := fun w' => True) (by kernel_rfl) ?_ (fun hHeld => ?_)
      · trivial
      refine wpAnyH_take (i := 0) (oi := ⟨some 20, _, _, _, _, _⟩) (v := _) rfl (by kernel_rfl) (by kernel_rfl) (by kernel_rfl) (fun _ _ _ h => h) (Or.inl ⟨by kernel_rfl, by intro w hSw; (try dsimp only at hSw); go_simp; try with_reducible rfl⟩) (by assumption) ?_
      simp only [Act.put, List.setIfInBounds_toArray, List.set_cons_zero, List.set_cons_succ]
      refine wpAnyH_take (i := 1) (oi := ⟨some 21, _, _, _, _, _⟩) (v := _) rfl (by kernel_rfl) (by kernel_rfl) (by kernel_rfl) (fun _ _ _ h => h) (Or.inl ⟨by kernel_rfl, by intro w hSw; (try dsimp only at hSw); go_simp; try with_reducible rfl⟩) (by assumption) ?_
      simp only [Act.put, List.setIfInBounds_toArray, List.set_cons_zero, List.set_cons_succ]
      refine wpAnyH_take (i := 2) (oi := ⟨some 22, _, _, _, _, _⟩) (v := _) rfl (by kernel_rfl) (by kernel_rfl) (by kernel_rfl) (fun _ _ _ h => h) (Or.inl ⟨by kernel_rfl, by intro w hSw; (try dsimp only at hSw); go_simp; try with_reducible rfl⟩) (by assumption) ?_
      simp only [Act.put, List.setIfInBounds_toArray, List.set_cons_zero, List.set_cons_succ]
      refine wpAnyH_take (i := 3) (oi := ⟨some 23, _, _, _, _, _⟩) (v := _) rfl (by kernel_rfl) (by kernel_rfl) (by kernel_rfl) (fun _ _ _ h => h) (Or.inl ⟨by kernel_rfl, by intro w hSw; (try dsimp only at hSw); go_simp; try with_reducible rfl⟩) (by assumption) ?_
      simp only [Act.put, List.setIfInBounds_toArray, List.set_cons_zero, List.set_cons_succ]
      refine wpAnyH_take (i := 7) (oi := ⟨some 27, _, _, _, _, _⟩) (v := _) rfl (by kernel_rfl) (by kernel_rfl) (by kernel_rfl) (fun _ _ _ h => h) (Or.inl ⟨by kernel_rfl, by intro w hSw; (try dsimp only at hSw); go_simp; try with_reducible rfl⟩) (by assumption) ?_
      simp only [Act.put, List.setIfInBounds_toArray, List.set_cons_zero, List.set_cons_succ]
      refine wpAnyH_take (i := 8) (oi := ⟨some 28, _, _, _, _, _⟩) (v := _) rfl (by kernel_rfl) (by kernel_rfl) (by kernel_rfl) (fun _ _ _ h => h) (Or.inl ⟨by kernel_rfl, by intro w hSw; (try dsimp only at hSw); go_simp; try with_reducible rfl⟩) (by assumption) ?_
      simp only [Act.put, List.setIfInBounds_toArray, List.set_cons_zero, List.set_cons_succ]
      refine wpAnyH_take (i := 9) (oi := ⟨some 29, _, _, _, _, _⟩) (v := _) rfl (by kernel_rfl) (by kernel_rfl) (by kernel_rfl) (fun _ _ _ h => h) (Or.inl ⟨by kernel_rfl, by intro w hSw; (try dsimp only at hSw); go_simp; try with_reducible rfl⟩) (by assumption) ?_
      simp only [Act.put, List.setIfInBounds_toArray, List.set_cons_zero, List.set_cons_succ]
      refine wpAnyH_take (i := 10) (oi := ⟨some 30, _, _, _, _, _⟩) (v := _) rfl (by kernel_rfl) (by kernel_rfl) (by kernel_rfl) (fun _ _ _ h => h) (Or.inl ⟨by kernel_rfl, by intro w hSw; (try dsimp only at hSw); go_simp; try with_reducible rfl⟩) (by assumption) ?_
      simp only [Act.put, List.setIfInBounds_toArray, List.set_cons_zero, List.set_cons_succ]
      refine wpAnyH_ready (rs := [4]) (by kernel_rfl) (by simp) ?_
      refine AllReadyH.cons (o := ⟨some 24, _, _, _, _, _⟩) rfl (fun K hK => ?_) AllReadyH.nil
      go_simp
      refine hK.out _ _ ?_ (fun hHeld2 => ?_)
      · trivial
      clear hK K hHeld
      have hHeld := hHeld2
      clear hHeld2
      try simp only [Act.put, List.setIfInBounds_toArray, List.set_cons_zero, List.set_cons_succ]
      refine wpAnyH_ready (rs := [5]) (by kernel_rfl) (by simp) ?_
      refine AllReadyH.cons (o := ⟨some 25, _, _, _, _, _⟩) rfl (fun K hK => ?_) AllReadyH.nil
      go_simp
      go_at_call 54
      rw [show (w2.alloc (.cells #[.string ⟨#[48]⟩, .string ⟨#[49]⟩, .string ⟨#[32]⟩, .string ⟨#[45]⟩, .string ⟨#[99]⟩, .string ⟨#[10]⟩, .string ⟨#[57]⟩] 9)).drew = w2.drew.alloc (.cells #[.string ⟨#[48]⟩, .string ⟨#[49]⟩, .string ⟨#[32]⟩, .string ⟨#[45]⟩, .string ⟨#[99]⟩, .string ⟨#[10]⟩, .string ⟨#[57]⟩] 9) from rfl]
      refine (of_lit B (k + 1 + 1) g _ [[48], [49], [32], [45], [99], [10], [57]] w2.drew _ _ _ HR2.out.drew (by omega) rfl rfl rfl (by simp) (by simp)).mono ?_
      rintro e x1 ⟨x, rfl, hx, hr3, bg3⟩
      have hxl : x.length = 1 := by simp only [List.mem_cons, List.not_mem_nil, or_false] at hx; rcases hx with rfl | rfl | rfl | rfl | rfl | rfl | rfl <;> rfl
      obtain ⟨zx, hzx⟩ : ∃ z, z = TB x := ⟨_, rfl⟩
      rw [← hzx]
      have hzs : zx.size = 1 := by rw [hzx, TB_size, hxl]
      obtain ⟨z1, hz1⟩ : ∃ z, z = E1 ++ zx := ⟨_, rfl⟩
      have hz1e : E1 ++ zx = z1 := hz1.symm
      have hz1s : z1.size ≤ i + 1 := by rw [hz1, ByteArray.size_append]; omega
      obtain ⟨z2, hz2⟩ : ∃ z, z = z1 ++ E2 := ⟨_, rfl⟩
      have hz2e : z1 ++ E2 = z2 := hz2.symm
      have hsa : E1.size + zx.size ≤ 9223372036854775807 := by omega
      have hsa1 : E1.size + 1 ≤ 9223372036854775807 := by omega
      have hsa2 : ¬ 9223372036854775807 < E1.size + 1 := by omega
      have hsb : z1.size + E2.size ≤ 9223372036854775807 := by omega
      have hsb2 : ¬ 9223372036854775807 < z1.size + E2.size := by omega
      have HZ2 := Lib.hid (show z2 = TB (l.take i ++ x ++ (l.drop (i + 1)).take (n - (i + 1))) by rw [hz2, hz1, HE1.out, hzx, HE2.out, TB_app, TB_app])
      have HFL := Lib.hid (show (l.take i ++ x ++ (l.drop (i + 1)).take (n - (i + 1))).length ≤ l.length + 1 by simp only [List.length_append, List.length_take, List.length_drop]; omega)
      have HR3 := Lib.hid hr3
      have HG3 := Lib.hid (grown_trans HG2.out (grown_drew bg3))
      clear hx hzx hz1 hz2 hr3 bg3
      go_wp2_with fail
      refine hK.out _ _ ?_ (fun hHeld2 => ?_)
      · trivial
      clear hK K hHeld
      have hHeld := hHeld2
      clear hHeld2
      try simp only [Act.put, List.setIfInBounds_toArray, List.set_cons_zero, List.set_cons_succ]
      refine wpAnyH_take (i := 6) (oi := ⟨some 26, _, _, _, _, _⟩) (v := _) rfl (by kernel_rfl) (by kernel_rfl) (by kernel_rfl) (fun _ _ _ h => h) (Or.inl ⟨by kernel_rfl, by intro w hSw; (try dsimp only at hSw); go_simp; try with_reducible rfl⟩) (by assumption) ?_
      simp only [Act.put, List.setIfInBounds_toArray, List.set_cons_zero, List.set_cons_succ]
      refine wpAnyH_take (i := 11) (oi := ⟨some 31, _, _, _, _, _⟩) (v := _) rfl (by kernel_rfl) (by kernel_rfl) (by kernel_rfl) (fun _ _ _ h => h) (Or.inl ⟨by kernel_rfl, by intro w hSw; (try dsimp only at hSw); go_simp; try with_reducible rfl⟩) (by assumption) ?_
      simp only [Act.put, List.setIfInBounds_toArray, List.set_cons_zero, List.set_cons_succ]
      refine wpAnyH_take (i := 12) (oi := ⟨some 4, _, _, _, _, _⟩) (v := _) rfl (by kernel_rfl) (by kernel_rfl) (by kernel_rfl) (fun _ _ _ h => h) (Or.inl ⟨by kernel_rfl, by intro w hSw; (try dsimp only at hSw); go_simp; try with_reducible rfl⟩) (by assumption) ?_
      simp only [Act.put, List.setIfInBounds_toArray, List.set_cons_zero, List.set_cons_succ]
      refine wpAnyH_done (by kernel_rfl) ?_ _
      focus
        clear hHeld
        go_wp2
        go_ret
        exact ⟨_, _, congrArg (fun z => Ending.returned (Value.string z)) HZ2.out, HFL.out, by omega, HR3.out, HG3.out⟩
    · have i1 : ¬ (i : Int) < (n : Int) := by omega
      have HST := Lib.hid (stay w2 rfl)
      clear h01 stay
      rcases hc01 with q0 | ⟨q0, q1⟩
      · go_wp2
        go_ret
        exact HST.out
      · go_wp2
        go_ret
        exact HST.out
  have q0 : (q == 0) = false := beq_f (by omega)
  have q1 : (q == 1) = false := beq_f (by omega)
  by_cases h2 : q = 2
  · have q2 : (q == 2) = true := beq_t h2
    have HL := Lib.hid (show (l.take i).length ≤ l.length + 1 by rw [List.length_take]; omega)
    clear h01 h2 stay
    go_wp2
    go_ret
    exact ⟨_, k + 1 + 1, congrArg (fun z => Ending.returned (Value.string z)) HE1.out, HL.out, by omega, HR2.out, HG2.out⟩
  have q2 : (q == 2) = false := beq_f h2
  by_cases h3 : q = 3
  · have q3 : (q == 3) = true := beq_t h3
    clear h01 h2 h3 stay
    go_wp2_with fail
    refine (of_lit B (k + 1 + 1) g _ [[48], [32], [10], [120]] w2 _ _ _ HR2.out (by omega) rfl rfl rfl (by simp) (by simp)).mono ?_
    rintro e x1 ⟨x, rfl, hx, hr3, bg3⟩
    have hxl : x.length = 1 := by
      simp only [List.mem_cons, List.not_mem_nil, or_false] at hx
      rcases hx with rfl | rfl | rfl | rfl <;> rfl
    obtain ⟨zx, hzx⟩ : ∃ z, z = TB x := ⟨_, rfl⟩
    rw [← hzx]
    have hzs : zx.size = 1 := by rw [hzx, TB_size, hxl]
    obtain ⟨z1, hz1⟩ : ∃ z, z = s ++ zx := ⟨_, rfl⟩
    have hz1e : s ++ zx = z1 := hz1.symm
    have hsa : s.size + zx.size ≤ 9223372036854775807 := by omega
    have hsa' : n + zx.size ≤ 9223372036854775807 := by omega
    have HZ2 := Lib.hid (show z1 = TB (l ++ x) by rw [hz1, HS.out, hzx, TB_app])
    have HL := Lib.hid (show (l ++ x).length ≤ l.length + 1 by rw [List.length_append]; omega)
    have HG3 := Lib.hid (grown_trans HG2.out bg3)
    clear hx hzx hz1 bg3
    go_wp2
    go_ret
    exact ⟨_, k + 1 + 1 + 1, congrArg (fun z => Ending.returned (Value.string z)) HZ2.out, HL.out, by omega, hr3, HG3.out⟩
  have q3 : (q == 3) = false := beq_f h3
  have HST := Lib.hid (stay w2 rfl)
  clear h01 h2 h3 stay
  go_wp2
  go_ret
  exact HST.out
end Go.Proofs.YtkgepklapglmdaaGreatDoor
