/-
  Lemmas and contracts of single functions of this program, used by the proofs of its laws: what each call returns and what becomes of memory. Conditions: the hypotheses of each theorem.
-/
import Derived.Test.YteckjiaaikdghaaKniP
import Derived.BigQuiet
namespace Go.Proofs.Yteckjiaaikdghaa
open Go.RowKit
attribute [local go_sem ↓] Go.wp_at_zero Go.wp_at_succ

def KnUp (xs : List Int) (k : Nat) : Prop := ∀ j, j < k → (0 ≤ gi xs j ∧ gi xs j ≤ 60) ∧ (j = 0 ∨ gi xs (j - 1) < gi xs j)
theorem KnUp.next {xs : List Int} {k : Nat} (h : KnUp xs k) (h1 : 0 ≤ gi xs k ∧ gi xs k ≤ 60) (h2 : k = 0 ∨ gi xs (k - 1) < gi xs k) : KnUp xs (k + 1) := fun j hj => by
  rcases Nat.lt_or_ge j k with h' | h'
  · exact h j h'
  · obtain rfl : j = k := by omega
    exact ⟨h1, h2⟩
theorem KnUp.all {xs : List Int} (h : KnUp xs xs.length) (hl : xs.length ≤ 24) : vKn xs = true := vKn_iff.2 ⟨hl, fun i hi => (h i hi).1, fun i hi => (h i hi).2⟩
theorem vKn_no {xs : List Int} {k : Nat} (hk : k < xs.length) (h : ¬ ((0 ≤ gi xs k ∧ gi xs k ≤ 60) ∧ (k = 0 ∨ gi xs (k - 1) < gi xs k))) : vKn xs = false := by
  cases hv : vKn xs
  · rfl
  · have h1 := vKn_iff.1 hv
    exact absurd ⟨h1.2.1 k hk, h1.2.2 k hk⟩ h
theorem vKn_long {xs : List Int} (h : ¬ xs.length ≤ 24) : vKn xs = false := by
  cases hv : vKn xs
  · rfl
  · exact absurd (vKn_iff.1 hv).1 h
set_option maxHeartbeats 1000000 in
theorem ValidKnives_any (lo hi : Nat) (v : Value) (xs : List Int) (w : World) (h : Ints w lo hi v xs) :
    Calls Try.prog 96 #[v] w fun e w' => e = .returned (.bool (vKn xs)) ∧ w = w' := by
  obtain ⟨A, c, rfl, hc, hm⟩ := h.form
  by_cases hl : xs.length ≤ 24
  rotate_left
  · have hl' : (24 : Int) < (xs.length : Int) := by omega
    have HR := Lib.hid (vKn_long hl)
    go_enter Try.func96, Try.ntmps96
    go_wp2
    go_ret
    exact ⟨ret_bool HR.out.symm, rfl⟩
  have hl' : ¬ (24 : Int) < (xs.length : Int) := by omega
  go_enter Try.func96, Try.ntmps96
  go_wp2
  go_loop [3, 4, 10] (fun _ _ i => ∃ k : Nat, k ≤ xs.length ∧ i = .int .i64 k ∧ Hid (KnUp xs k)) (fun _ _ i => xs.length - (intOf i).toNat)
  case atStart => exact ⟨0, by omega, rfl, fun j hj => absurd hj (by omega)⟩
  case round =>
    obtain ⟨k, hk, rfl, HD⟩ := hrel
    by_cases hlt : k < xs.length
    · obtain ⟨b', o, rfl, _, _, hcell, h64⟩ := h.cell hlt
      have hk0 : (0 : Int) ≤ (k : Int) := by omega
      have hk1 : (k : Int) < (xs.length : Int) := by omega
      obtain ⟨x, hx⟩ : ∃ x, x = gi xs k := ⟨_, rfl⟩
      have HNO := Lib.hid (fun hn => vKn_no (xs := xs) hlt hn)
      have HYES := Lib.hid (fun h1 h2 => HD.out.next h1 h2)
      rw [← hx] at hcell h64 HNO HYES
      clear hx
      by_cases i1 : x < 0
      · have HR := Lib.hid (HNO.out fun h => by omega)
        go_wp2
        go_ret
        exact ⟨ret_bool HR.out.symm, rfl⟩
      by_cases i2 : 60 < x
      · have HR := Lib.hid (HNO.out fun h => by omega)
        go_wp2
        go_ret
        exact ⟨ret_bool HR.out.symm, rfl⟩
      rcases Nat.eq_zero_or_pos k with h0 | h0
      · have hk2 : ¬ (0 : Int) < (k : Int) := by omega
        have hk3 : ¬ 0 < k := by omega
        have HU := Lib.hid (HYES.out ⟨by omega, by omega⟩ (.inl h0))
        clear h0 HNO HYES
        go_wp2
        go_round
        case rel => exact ⟨k + 1, by omega, by go_num, HU.out⟩
        case measure => simp [intOf]; omega
      · have hk2 : (0 : Int) < (k : Int) := by omega
        have hk3 : 0 < k := h0
        obtain ⟨q, hq⟩ : ∃ q, k = q + 1 := ⟨k - 1, by omega⟩
        have pcell := h.cell' (k := q) (by omega)
        have hqe : (k : Int) - 1 = (q : Int) := by omega
        have hq0 : (0 : Int) ≤ (q : Int) := by omega
        have hq1 : (q : Int) < (xs.length : Int) := by omega
        obtain ⟨y, hy⟩ : ∃ y, y = gi xs (k - 1) := ⟨_, rfl⟩
        have hqk : k - 1 = q := by omega
        rw [← hy] at HNO HYES
        rw [← hqk, ← hy] at pcell
        rw [hqk] at pcell
        have Hq := Lib.hid hq
        clear hqk hq hy h0
        by_cases i3 : x ≤ y
        · have HR := Lib.hid (HNO.out fun h => by have := Hq.out; omega)
          go_wp2
          go_ret
          exact ⟨ret_bool HR.out.symm, rfl⟩
        · have HU := Lib.hid (HYES.out ⟨by omega, by omega⟩ (.inr (by omega)))
          clear HNO HYES
          go_wp2
          go_round
          case rel => exact ⟨k + 1, by omega, by go_num, HU.out⟩
          case measure => simp [intOf]; omega
    · have HR := Lib.hid (show vKn xs = true from KnUp.all (by have e : k = xs.length := by omega
                                                               rw [← e]; exact HD.out) hl)
      go_wp2
      go_ret
      exact ⟨ret_bool HR.out.symm, rfl⟩
set_option maxRecDepth 100000 in
set_option maxHeartbeats 1000000 in
theorem validKnives_any (lo hi : Nat) (v : Value) (xs : List Int) (w : World) (h : Ints w lo hi v xs) :
    Calls Try.prog 94 #[v] w fun e w' => e = .returned (.bool (vKn xs)) ∧ Qt w w' := by
  obtain ⟨A, c, rfl, hc, hm⟩ := h.form
  go_enter Try.func94, Try.ntmps94
  go_wp2
  go_loopw [3] (fun i wr => ∃ k : Nat, 1 ≤ k ∧ (k ≤ xs.length ∨ k = 1) ∧ i = .int .i64 k ∧ Qt w wr ∧ Hid (∀ j, j < k → j < xs.length → j = 0 ∨ gi xs (j - 1) < gi xs j)) (fun i _ => xs.length - (intOf i).toNat)
  case atStart => exact ⟨1, Nat.le_refl _, .inr rfl, rfl, Qt.refl _, fun j hj _ => .inl (by omega)⟩
  case round =>
    obtain ⟨k, hk1', hk, rfl, hq, HD⟩ := hrel
    by_cases hlt : k < xs.length
    · obtain ⟨q, hqk⟩ : ∃ q, k = q + 1 := ⟨k - 1, by omega⟩
      obtain ⟨b', o, rfl, _, _, hcell, _⟩ := (h.qt hq).cell hlt
      have pcell := (h.qt hq).cell' (k := q) (by omega)
      have hk0 : (0 : Int) ≤ (k : Int) := by omega
      have hk1 : (k : Int) < (xs.length : Int) := by omega
      have hqe : (k : Int) - 1 = (q : Int) := by omega
      have g1 : IntKind.i64.wrap (q : Int) = (q : Int) := IntWalk.i64_in _ (by omega)
      have hq0 : (0 : Int) ≤ (q : Int) := by omega
      have hq1 : (q : Int) < (xs.length : Int) := by omega
      have HNO := Lib.hid (fun hn => vKn_no (xs := xs) hlt hn)
      obtain ⟨x, hx⟩ : ∃ x, x = gi xs k := ⟨_, rfl⟩
      obtain ⟨y, hy⟩ : ∃ y, y = gi xs q := ⟨_, rfl⟩
      rw [← hx] at hcell HNO
      rw [← hy] at pcell
      have HX := Lib.hid hx
      have HY := Lib.hid (show y = gi xs (k - 1) by rw [hy, hqk, Nat.add_sub_cancel])
      clear hx hy hqk
      go_wp2
      refine wp_region_held_drew (S := fun w' => w'.cell? ⟨b', o + k, none⟩ = some (.int .i64 x) ∧ w'.cell? ⟨b', o + q, none⟩ = some (.int .i64 y)) (by kernel_rfl) ?_ (fun hHeld => ?_)
      · (first | (try dsimp only); go_keep | (go_split_ands; refine ⟨?_, ?_⟩ <;> first | exact keepB bx5 (by assumption) | exact keepB bx4 (by assumption) | exact keepB bx3 (by assumption) | exact keepB bx2 (by assumption) | exact keepB bx1 (by assumption) | exact keepO bo5 (by first | (simp; done) | (simp; omega)) (by assumption) | exact keepO bo4 (by first | (simp; done) | (simp; omega)) (by assumption) | exact keepO bo3 (by first | (simp; done) | (simp; omega)) (by assumption) | exact keepO bo2 (by first | (simp; done) | (simp; omega)) (by assumption) | exact keepO bo1 (by first | (simp; done) | (simp; omega)) (by assumption) | exact keepW bg2 (by first | (simp; done) | (simp; omega)) (by assumption) | exact keepW bg1 (by first | (simp; done) | (simp; omega)) (by assumption) | assumption))
      refine wpAnyH_take (i := 0) (oi := ⟨some 10, _, _, _, _, _⟩) (v := _) rfl (by kernel_rfl) (by kernel_rfl) (by kernel_rfl) (fun _ _ _ h => h) (Or.inl ⟨by kernel_rfl, by intro w hSw; (try dsimp only at hSw); go_simp; try with_reducible rfl⟩) (by assumption) ?_
      simp only [Act.put, List.setIfInBounds_toArray, List.set_cons_zero, List.set_cons_succ]
      refine wpAnyH_take (i := 1) (oi := ⟨some 11, _, _, _, _, _⟩) (v := _) rfl (by kernel_rfl) (by kernel_rfl) (by kernel_rfl) (fun _ _ _ h => h) (Or.inl ⟨by kernel_rfl, by intro w hSw; (try dsimp only at hSw); go_simp; try with_reducible rfl⟩) (by assumption) ?_
      simp only [Act.put, List.setIfInBounds_toArray, List.set_cons_zero, List.set_cons_succ]
      refine wpAnyH_take (i := 2) (oi := ⟨some 12, _, _, _, _, _⟩) (v := _) rfl (by kernel_rfl) (by kernel_rfl) (by kernel_rfl) (fun _ _ _ h => h) (Or.inl ⟨by kernel_rfl, by intro w hSw; (try dsimp only at hSw); go_simp; try with_reducible rfl⟩) (by assumption) ?_
      simp only [Act.put, List.setIfInBounds_toArray, List.set_cons_zero, List.set_cons_succ]
      refine wpAnyH_take (i := 3) (oi := ⟨some 13, _, _, _, _, _⟩) (v := _) rfl (by kernel_rfl) (by kernel_rfl) (by kernel_rfl) (fun _ _ _ h => h) (Or.inl ⟨by kernel_rfl, by intro w hSw; (try dsimp only at hSw); go_simp; try with_reducible rfl⟩) (by assumption) ?_
      simp only [Act.put, List.setIfInBounds_toArray, List.set_cons_zero, List.set_cons_succ]
      refine wpAnyH_take (i := 4) (oi := ⟨some 14, _, _, _, _, _⟩) (v := _) rfl (by kernel_rfl) (by kernel_rfl) (by kernel_rfl) (fun _ _ _ h => h) (Or.inl ⟨by kernel_rfl, by intro w hSw; (try dsimp only at hSw); go_simp; try with_reducible rfl⟩) (by assumption) ?_
      simp only [Act.put, List.setIfInBounds_toArray, List.set_cons_zero, List.set_cons_succ]
      refine wpAnyH_take (i := 5) (oi := ⟨some 15, _, _, _, _, _⟩) (v := _) rfl (by kernel_rfl) (by kernel_rfl) (by kernel_rfl) (fun _ _ _ h => h) (Or.inl ⟨by kernel_rfl, by intro w hSw; (try dsimp only at hSw); go_simp; try with_reducible rfl⟩) (by assumption) ?_
      simp only [Act.put, List.setIfInBounds_toArray, List.set_cons_zero, List.set_cons_succ]
      refine wpAnyH_take (i := 6) (oi := ⟨some 16, _, _, _, _, _⟩) (v := _) rfl (by kernel_rfl) (by kernel_rfl) (by kernel_rfl) (fun _ _ _ h => h) (Or.inl ⟨by kernel_rfl, by intro w hSw; (try dsimp only at hSw); go_simp; try with_reducible rfl⟩) (by assumption) ?_
      simp only [Act.put, List.setIfInBounds_toArray, List.set_cons_zero, List.set_cons_succ]
      refine wpAnyH_take (i := 7) (oi := ⟨some 17, _, _, _, _, _⟩) (v := _) rfl (by kernel_rfl) (by kernel_rfl) (by kernel_rfl) (fun _ _ _ h => h) (Or.inl ⟨by kernel_rfl, by intro w hSw; (try dsimp only at hSw); go_simp; try with_reducible rfl⟩) (by assumption) ?_
      simp only [Act.put, List.setIfInBounds_toArray, List.set_cons_zero, List.set_cons_succ]
      refine wpAnyH_take (i := 8) (oi := ⟨some 18, _, _, _, _, _⟩) (v := _) rfl (by kernel_rfl) (by kernel_rfl) (by kernel_rfl) (fun _ _ _ h => h) (Or.inl ⟨by kernel_rfl, by intro w hSw; (try dsimp only at hSw); go_simp; try with_reducible rfl⟩) (by assumption) ?_
      simp only [Act.put, List.setIfInBounds_toArray, List.set_cons_zero, List.set_cons_succ]
      refine wpAnyH_take (i := 9) (oi := ⟨some 19, _, _, _, _, _⟩) (v := _) rfl (by kernel_rfl) (by kernel_rfl) (by kernel_rfl) (fun _ _ _ h => h) (Or.inl ⟨by kernel_rfl, by intro w hSw; (try dsimp only at hSw); go_simp; try with_reducible rfl⟩) (by assumption) ?_
      simp only [Act.put, List.setIfInBounds_toArray, List.set_cons_zero, List.set_cons_succ]
      refine wpAnyH_done (by kernel_rfl) ?_ _
      by_cases i3 : x ≤ y
      · have HR := Lib.hid (HNO.out fun h => by have := h.2; rw [← HY.out] at this; omega)
        go_wp2
        go_ret
        exact ⟨ret_bool HR.out.symm, hq.trans (Qt.one _ 1)⟩
      · go_wp2
        go_roundw
        case rel =>
          refine ⟨k + 1, by omega, .inl (by omega), by go_num, hq.trans (Qt.one _ 1), fun j hj hjl => ?_⟩
          rcases Nat.lt_or_ge j k with h' | h'
          · exact HD.out j h' hjl
          · obtain rfl : j = k := by omega
            exact .inr (by rw [← HX.out, ← HY.out]; omega)
        case measure => simp [intOf]; omega
    · have hni : ¬ (k : Int) < (xs.length : Int) := by omega
      have HU := Lib.hid (show ∀ j, j < xs.length → j = 0 ∨ gi xs (j - 1) < gi xs j from fun j hj => HD.out j (by omega) hj)
      by_cases hl : xs.length ≤ 24
      · have hl' : (xs.length : Int) ≤ 24 := by omega
        have HR := Lib.hid (show vKn xs = allR 0 60 xs by
          cases hv : allR 0 60 xs
          · cases hw : vKn xs
            · rfl
            · have := allR_iff.2 (vKn_iff.1 hw).2.1; rw [hv] at this; cases this
          · exact vKn_iff.2 ⟨hl, allR_iff.1 hv, HU.out⟩)
        go_wp2_with fail
        refine (allIn_any lo hi _ xs 0 60 wr (h.qt hq)).mono ?_
        rintro e w8 ⟨rfl, hw8⟩
        subst hw8
        go_wp2
        go_ret
        exact ⟨ret_bool HR.out.symm, hq⟩
      · have hl' : ¬ (xs.length : Int) ≤ 24 := by omega
        have HR := Lib.hid (vKn_long hl)
        go_wp2
        go_ret
        exact ⟨ret_bool HR.out.symm, hq⟩
/-- a table, rows before k whole, row k up to j, the others not made -/
def tabO (m n k : Nat) (f : Nat → Nat → Int) : List (List Int) := (List.range m).map fun i => if i < k then (List.range n).map (f i) else []
def tabP (m n k j : Nat) (f : Nat → Nat → Int) : List (List Int) := (List.range m).map fun i => if i < k then (List.range n).map (f i) else if i = k then (List.range n).map (fun c => if c < j then f i c else 0) else []
theorem tabO_len (m n k : Nat) (f : Nat → Nat → Int) : (tabO m n k f).length = m := by simp [tabO]
theorem tabP_len (m n k j : Nat) (f : Nat → Nat → Int) : (tabP m n k j f).length = m := by simp [tabP]
theorem tabP_row {m n k j i : Nat} {f : Nat → Nat → Int} (hi : i < m) (hk : i < k) : gr (tabP m n k j f) i = (List.range n).map (f i) := by
  rw [gr_eq (by rw [tabP_len]; exact hi)]
  simp only [tabP, List.getElem_map, List.getElem_range]
  rw [if_pos hk]
theorem tabP_cur {m n k j : Nat} {f : Nat → Nat → Int} (hk : k < m) : gr (tabP m n k j f) k = (List.range n).map (fun c => if c < j then f k c else 0) := by
  rw [gr_eq (by rw [tabP_len]; exact hk)]
  simp only [tabP, List.getElem_map, List.getElem_range]
  rw [if_neg (Nat.lt_irrefl k), if_pos trivial]
theorem gi_map_range {n i : Nat} {f : Nat → Int} (h : i < n) : gi ((List.range n).map f) i = f i := by
  rw [gi_eq (by simpa using h)]; simp
theorem tabP_end {m n k : Nat} {f : Nat → Nat → Int} : tabP m n k n f = tabO m n (k + 1) f := by
  unfold tabP tabO
  apply List.map_congr_left
  intro i _
  by_cases h1 : i < k
  · rw [if_pos h1, if_pos (by omega)]
  · rw [if_neg h1]
    by_cases h2 : i = k
    · subst h2
      rw [if_pos rfl, if_pos (by omega)]
      apply List.map_congr_left
      intro c hc
      rw [if_pos (List.mem_range.1 hc)]
    · rw [if_neg h2, if_neg (by omega)]
theorem tabO_put {m n k : Nat} {f : Nat → Nat → Int} (_hk : k < m) : (tabO m n k f).set k (List.replicate n 0) = tabP m n k 0 f := by
  apply List.ext_getElem
  · rw [List.length_set, tabO_len, tabP_len]
  · intro i h1 h2
    rw [tabP_len] at h2
    simp only [List.getElem_set, tabO, tabP, List.getElem_map, List.getElem_range]
    by_cases h3 : k = i
    · subst h3
      rw [if_pos rfl, if_neg (Nat.lt_irrefl _), if_pos rfl]
      apply List.ext_getElem
      · simp
      · intro c c1 c2; simp
    · rw [if_neg h3]
      by_cases h4 : i < k
      · rw [if_pos h4, if_pos h4]
      · rw [if_neg h4, if_neg h4, if_neg (fun e => h3 e.symm)]
theorem tabP_set {m n k j : Nat} {f : Nat → Nat → Int} (hk : k < m) (hj : j < n) : set2 (tabP m n k j f) k j (f k j) = tabP m n k (j + 1) f := by
  unfold set2
  rw [tabP_cur hk]
  apply List.ext_getElem
  · rw [List.length_set, tabP_len, tabP_len]
  · intro i h1 h2
    rw [tabP_len] at h2
    simp only [List.getElem_set]
    by_cases h3 : k = i
    · subst h3
      rw [if_pos rfl]
      simp only [tabP, List.getElem_map, List.getElem_range]
      rw [if_neg (Nat.lt_irrefl _), if_pos trivial]
      apply List.ext_getElem
      · simp
      · intro c c1 c2
        simp only [List.getElem_set, List.getElem_map, List.getElem_range]
        by_cases h5 : j = c
        · subst h5; rw [if_pos rfl, if_pos (by omega)]
        · rw [if_neg h5]
          by_cases h6 : c < j
          · rw [if_pos h6, if_pos (by omega)]
          · rw [if_neg h6, if_neg (by omega)]
    · rw [if_neg h3]
      simp only [tabP, List.getElem_map, List.getElem_range]
      by_cases h4 : i < k
      · rw [if_pos h4, if_pos h4]
      · rw [if_neg h4, if_neg h4, if_neg (fun e => h3 e.symm), if_neg (fun e => h3 e.symm)]
theorem set2_set2 (xss : List (List Int)) (r i : Nat) (x y : Int) (hr : r < xss.length) : set2 (set2 xss r i x) r i y = set2 xss r i y := by
  unfold set2
  have e : gr (xss.set r ((gr xss r).set i x)) r = (gr xss r).set i x := by simp [gr, hr]
  rw [e, List.set_set, List.set_set]
end Go.Proofs.Yteckjiaaikdghaa
