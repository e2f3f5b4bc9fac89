/-
  Lemmas and contracts of single functions of this program, used by the proofs of its laws: what each call returns and what becomes of memory. Conditions: the hypotheses of each theorem.
-/
import Derived.Test.YtcebdokdekgeaaaReelB
namespace Go.Proofs.Ytcebdokdekgeaaa
open Go.RowKit

theorem set2_set {xss : List (List Int)} {i : Nat} (hi : i < xss.length) {r : List Int} {j : Nat} {y : Int} : set2 (xss.set i r) i j y = xss.set i (r.set j y) := by
  unfold set2 gr
  rw [List.getD_eq_getElem?_getD, List.getElem?_set_self hi, Option.getD_some, List.set_set]
theorem upT_set (k n : Nat) (xs : List (List Int)) (i : Nat) (hi : i < xs.length) : (upT k n i ++ xs.drop i).set i ((List.range k).map fun j => ((n + i * k + j : Nat) : Int)) = upT k n (i + 1) ++ xs.drop (i + 1) := by
  rw [List.set_append_right _ _ (by rw [upT_len]; omega), upT_len, Nat.sub_self, drop_gr hi, List.set_cons_zero]
  have e : upT k n (i + 1) = upT k n i ++ [(List.range k).map fun j => ((n + i * k + j : Nat) : Int)] := by
    unfold upT; rw [List.range_succ, List.map_append]; rfl
  rw [e, List.append_assoc]; rfl
theorem gr_mid (k n : Nat) (xs : List (List Int)) (i : Nat) (_hi : i < xs.length) : gr (upT k n i ++ xs.drop i) i = gr xs i := by
  unfold gr
  rw [List.getD_eq_getElem?_getD, List.getElem?_append_right (by rw [upT_len]; omega), upT_len, Nat.sub_self, List.getElem?_drop]
  simp
theorem mid_len (k n : Nat) (xs : List (List Int)) (i : Nat) (hi : i ≤ xs.length) : (upT k n i ++ xs.drop i).length = xs.length := by
  rw [List.length_append, upT_len, List.length_drop]; omega
theorem OwnT.setRow {w : World} {base e k n c g : Nat} {xss : List (List Int)} {i : Nat} {r : List Int} (h : OwnT w base e k (.slice (some ⟨g, 0, none⟩) n c) (xss.set i r)) (hi : i < xss.length) (j : Nat) (hj : j < k) (y : Int) (hy : I64 y) :
    OwnT (w.setCell ⟨g, i * k + j, none⟩ (.int .i64 y)) base e k (.slice (some ⟨g, 0, none⟩) n c) (xss.set i (r.set j y)) := by
  obtain ⟨g0, e0, _, _, _, _, s0⟩ := h.at_ (i := i) (by rw [List.length_set]; exact hi) (by omega)
  simp only [Option.some.injEq, Addr.mk.injEq, and_true] at e0
  subst e0
  have h0 := s0 j y hj hy
  rw [set2_set hi] at h0
  exact h0

set_option maxHeartbeats 1000000 in
theorem OwnT.row2 {w : World} {base e n c g : Nat} {xss : List (List Int)} (h : OwnT w base e 2 (.slice (some ⟨g, 0, none⟩) n c) xss) {i : Nat} (hi : i < xss.length) (y0 y1 : Int) (hy : I64 y0 ∧ I64 y1) :
    OwnT ((w.setCell ⟨g, i * 2, none⟩ (.int .i64 y0)).setCell ⟨g, i * 2 + 1, none⟩ (.int .i64 y1)) base e 2 (.slice (some ⟨g, 0, none⟩) n c) (xss.set i [y0, y1]) := by
  obtain ⟨i0, i1⟩ := hy
  have hrow := (h.2 _ (gr_mem hi)).1
  have e0 : xss.set i (gr xss i) = xss := by rw [gr_eq hi]; exact List.set_getElem_self hi
  rw [← e0] at h
  clear e0
  obtain ⟨q, hq⟩ : ∃ q, q = gr xss i := ⟨_, rfl⟩
  rw [← hq] at hrow h
  clear hq
  match q, hrow, h with
  | [a0, a1], _, h =>
    have h0 := h.setRow hi 0 (by omega) y0 i0
    rw [Nat.add_zero] at h0
    rw [show ([a0, a1] : List Int).set 0 y0 = [y0, a1] from rfl] at h0
    have h1 := h0.setRow hi 1 (by omega) y1 i1
    rw [show ([y0, a1] : List Int).set 1 y1 = [y0, y1] from rfl] at h1
    exact h1
set_option maxHeartbeats 1000000 in
theorem OwnT.row4 {w : World} {base e n c g : Nat} {xss : List (List Int)} (h : OwnT w base e 4 (.slice (some ⟨g, 0, none⟩) n c) xss) {i : Nat} (hi : i < xss.length) (y0 y1 y2 y3 : Int) (hy : I64 y0 ∧ I64 y1 ∧ I64 y2 ∧ I64 y3) :
    OwnT ((((w.setCell ⟨g, i * 4, none⟩ (.int .i64 y0)).setCell ⟨g, i * 4 + 1, none⟩ (.int .i64 y1)).setCell ⟨g, i * 4 + 2, none⟩ (.int .i64 y2)).setCell ⟨g, i * 4 + 3, none⟩ (.int .i64 y3)) base e 4 (.slice (some ⟨g, 0, none⟩) n c) (xss.set i [y0, y1, y2, y3]) := by
  obtain ⟨i0, i1, i2, i3⟩ := hy
  have hrow := (h.2 _ (gr_mem hi)).1
  have e0 : xss.set i (gr xss i) = xss := by rw [gr_eq hi]; exact List.set_getElem_self hi
  rw [← e0] at h
  clear e0
  obtain ⟨q, hq⟩ : ∃ q, q = gr xss i := ⟨_, rfl⟩
  rw [← hq] at hrow h
  clear hq
  match q, hrow, h with
  | [a0, a1, a2, a3], _, h =>
    have h0 := h.setRow hi 0 (by omega) y0 i0
    rw [Nat.add_zero] at h0
    rw [show ([a0, a1, a2, a3] : List Int).set 0 y0 = [y0, a1, a2, a3] from rfl] at h0
    have h1 := h0.setRow hi 1 (by omega) y1 i1
    rw [show ([y0, a1, a2, a3] : List Int).set 1 y1 = [y0, y1, a2, a3] from rfl] at h1
    have h2 := h1.setRow hi 2 (by omega) y2 i2
    rw [show ([y0, y1, a2, a3] : List Int).set 2 y2 = [y0, y1, y2, a3] from rfl] at h2
    have h3 := h2.setRow hi 3 (by omega) y3 i3
    rw [show ([y0, y1, y2, a3] : List Int).set 3 y3 = [y0, y1, y2, y3] from rfl] at h3
    exact h3
set_option maxHeartbeats 1000000 in
theorem OwnT.row5 {w : World} {base e n c g : Nat} {xss : List (List Int)} (h : OwnT w base e 5 (.slice (some ⟨g, 0, none⟩) n c) xss) {i : Nat} (hi : i < xss.length) (y0 y1 y2 y3 y4 : Int) (hy : I64 y0 ∧ I64 y1 ∧ I64 y2 ∧ I64 y3 ∧ I64 y4) :
    OwnT (((((w.setCell ⟨g, i * 5, none⟩ (.int .i64 y0)).setCell ⟨g, i * 5 + 1, none⟩ (.int .i64 y1)).setCell ⟨g, i * 5 + 2, none⟩ (.int .i64 y2)).setCell ⟨g, i * 5 + 3, none⟩ (.int .i64 y3)).setCell ⟨g, i * 5 + 4, none⟩ (.int .i64 y4)) base e 5 (.slice (some ⟨g, 0, none⟩) n c) (xss.set i [y0, y1, y2, y3, y4]) := by
  obtain ⟨i0, i1, i2, i3, i4⟩ := hy
  have hrow := (h.2 _ (gr_mem hi)).1
  have e0 : xss.set i (gr xss i) = xss := by rw [gr_eq hi]; exact List.set_getElem_self hi
  rw [← e0] at h
  clear e0
  obtain ⟨q, hq⟩ : ∃ q, q = gr xss i := ⟨_, rfl⟩
  rw [← hq] at hrow h
  clear hq
  match q, hrow, h with
  | [a0, a1, a2, a3, a4], _, h =>
    have h0 := h.setRow hi 0 (by omega) y0 i0
    rw [Nat.add_zero] at h0
    rw [show ([a0, a1, a2, a3, a4] : List Int).set 0 y0 = [y0, a1, a2, a3, a4] from rfl] at h0
    have h1 := h0.setRow hi 1 (by omega) y1 i1
    rw [show ([y0, a1, a2, a3, a4] : List Int).set 1 y1 = [y0, y1, a2, a3, a4] from rfl] at h1
    have h2 := h1.setRow hi 2 (by omega) y2 i2
    rw [show ([y0, y1, a2, a3, a4] : List Int).set 2 y2 = [y0, y1, y2, a3, a4] from rfl] at h2
    have h3 := h2.setRow hi 3 (by omega) y3 i3
    rw [show ([y0, y1, y2, a3, a4] : List Int).set 3 y3 = [y0, y1, y2, y3, a4] from rfl] at h3
    have h4 := h3.setRow hi 4 (by omega) y4 i4
    rw [show ([y0, y1, y2, y3, a4] : List Int).set 4 y4 = [y0, y1, y2, y3, y4] from rfl] at h4
    exact h4
set_option maxHeartbeats 1000000 in
theorem OwnT.row7 {w : World} {base e n c g : Nat} {xss : List (List Int)} (h : OwnT w base e 7 (.slice (some ⟨g, 0, none⟩) n c) xss) {i : Nat} (hi : i < xss.length) (y0 y1 y2 y3 y4 y5 y6 : Int) (hy : I64 y0 ∧ I64 y1 ∧ I64 y2 ∧ I64 y3 ∧ I64 y4 ∧ I64 y5 ∧ I64 y6) :
    OwnT (((((((w.setCell ⟨g, i * 7, none⟩ (.int .i64 y0)).setCell ⟨g, i * 7 + 1, none⟩ (.int .i64 y1)).setCell ⟨g, i * 7 + 2, none⟩ (.int .i64 y2)).setCell ⟨g, i * 7 + 3, none⟩ (.int .i64 y3)).setCell ⟨g, i * 7 + 4, none⟩ (.int .i64 y4)).setCell ⟨g, i * 7 + 5, none⟩ (.int .i64 y5)).setCell ⟨g, i * 7 + 6, none⟩ (.int .i64 y6)) base e 7 (.slice (some ⟨g, 0, none⟩) n c) (xss.set i [y0, y1, y2, y3, y4, y5, y6]) := by
  obtain ⟨i0, i1, i2, i3, i4, i5, i6⟩ := hy
  have hrow := (h.2 _ (gr_mem hi)).1
  have e0 : xss.set i (gr xss i) = xss := by rw [gr_eq hi]; exact List.set_getElem_self hi
  rw [← e0] at h
  clear e0
  obtain ⟨q, hq⟩ : ∃ q, q = gr xss i := ⟨_, rfl⟩
  rw [← hq] at hrow h
  clear hq
  match q, hrow, h with
  | [a0, a1, a2, a3, a4, a5, a6], _, h =>
    have h0 := h.setRow hi 0 (by omega) y0 i0
    rw [Nat.add_zero] at h0
    rw [show ([a0, a1, a2, a3, a4, a5, a6] : List Int).set 0 y0 = [y0, a1, a2, a3, a4, a5, a6] from rfl] at h0
    have h1 := h0.setRow hi 1 (by omega) y1 i1
    rw [show ([y0, a1, a2, a3, a4, a5, a6] : List Int).set 1 y1 = [y0, y1, a2, a3, a4, a5, a6] from rfl] at h1
    have h2 := h1.setRow hi 2 (by omega) y2 i2
    rw [show ([y0, y1, a2, a3, a4, a5, a6] : List Int).set 2 y2 = [y0, y1, y2, a3, a4, a5, a6] from rfl] at h2
    have h3 := h2.setRow hi 3 (by omega) y3 i3
    rw [show ([y0, y1, y2, a3, a4, a5, a6] : List Int).set 3 y3 = [y0, y1, y2, y3, a4, a5, a6] from rfl] at h3
    have h4 := h3.setRow hi 4 (by omega) y4 i4
    rw [show ([y0, y1, y2, y3, a4, a5, a6] : List Int).set 4 y4 = [y0, y1, y2, y3, y4, a5, a6] from rfl] at h4
    have h5 := h4.setRow hi 5 (by omega) y5 i5
    rw [show ([y0, y1, y2, y3, y4, a5, a6] : List Int).set 5 y5 = [y0, y1, y2, y3, y4, y5, a6] from rfl] at h5
    have h6 := h5.setRow hi 6 (by omega) y6 i6
    rw [show ([y0, y1, y2, y3, y4, y5, a6] : List Int).set 6 y6 = [y0, y1, y2, y3, y4, y5, y6] from rfl] at h6
    exact h6
set_option maxRecDepth 100000 in
set_option maxHeartbeats 2000000 in
theorem markPartS_any (base : Nat) (v : Value) (xs : List (List Int)) (n : Nat) (w : World) (h : OwnT w base 38 4 v xs) (hl : xs.length ≤ 1048576) (hn : n ≤ 9000000) :
    Calls Try.prog 87 #[v, .int .i64 (n : Int)] w fun e w' => e = .returned (.int .i64 ((n + xs.length * 4 : Nat) : Int)) ∧ OwnT w' base 38 4 v (upT 4 n xs.length) ∧ Below base w w' ∧ (∀ b, some b ≠ v.ownBlock → w'.heap[b]? = w.heap[b]?) ∧ w'.heap.size = w.heap.size := by
  obtain ⟨A, c, rfl, hc, hm⟩ := h.form
  go_enter Try.func87, Try.ntmps87
  go_wp2
  go_loopw [1, 5] (fun q i wr => ∃ k : Nat, k ≤ xs.length ∧ i = .int .i64 k ∧ q = .int .i64 ((n + k * 4 : Nat) : Int) ∧ OwnT wr base 38 4 (.slice A xs.length c) (upT 4 n k ++ xs.drop k) ∧ Below base w wr ∧ Hid (∀ b, some b ≠ (Value.slice A xs.length c).ownBlock → wr.heap[b]? = w.heap[b]?) ∧ Hid (wr.heap.size = w.heap.size)) (fun _ i _ => xs.length - (intOf i).toNat)
  case atStart => exact ⟨0, by omega, rfl, by simp, by simpa [upT] using h, Below.refl _ _, fun _ _ => rfl, rfl⟩
  case round =>
    obtain ⟨k, hk, rfl, rfl, ho, hb, HB, HS⟩ := hrel
    by_cases hlt : k < xs.length
    · have hml := mid_len 4 n xs k hk
      obtain ⟨g, rfl, hgb, hgs, hcell, hfr, _⟩ := ho.at_ (i := k) (by rw [hml]; exact hlt) (by omega)
      have e0 := hcell 0 (by omega)
      have f0 := hfr 0
      have e1 := hcell 1 (by omega)
      have f1 := hfr 1
      have e2 := hcell 2 (by omega)
      have f2 := hfr 2
      have e3 := hcell 3 (by omega)
      have f3 := hfr 3
      rw [Nat.add_zero] at e0 f0
      obtain ⟨z, hz⟩ : ∃ z, z = n + k * 4 := ⟨_, rfl⟩
      have hz2 : z ≤ 20000000 := by omega
      have hrow := ho.row4 (i := k) (by rw [hml]; exact hlt) ((z : Int)) ((z : Int) + 1) ((z : Int) + 1 + 1) ((z : Int) + 1 + 1 + 1) ⟨⟨by omega, by omega⟩, ⟨by omega, by omega⟩, ⟨by omega, by omega⟩, ⟨by omega, by omega⟩⟩
      have er : [(z : Int), (z : Int) + 1, (z : Int) + 1 + 1, (z : Int) + 1 + 1 + 1] = (List.range 4).map fun j => ((n + k * 4 + j : Nat) : Int) := by
        rw [hz]; simp only [List.range, List.range.loop, List.map]; simp only [List.cons.injEq, and_true]; refine ⟨?_, ?_, ?_, ?_⟩ <;> omega
      rw [er, upT_set 4 n xs k hlt] at hrow
      obtain ⟨x0, hx0⟩ : ∃ x, x = gi (gr (upT 4 n k ++ xs.drop k) k) 0 := ⟨_, rfl⟩
      rw [← hx0] at e0
      obtain ⟨x1, hx1⟩ : ∃ x, x = gi (gr (upT 4 n k ++ xs.drop k) k) 1 := ⟨_, rfl⟩
      rw [← hx1] at e1
      obtain ⟨x2, hx2⟩ : ∃ x, x = gi (gr (upT 4 n k ++ xs.drop k) k) 2 := ⟨_, rfl⟩
      rw [← hx2] at e2
      obtain ⟨x3, hx3⟩ : ∃ x, x = gi (gr (upT 4 n k ++ xs.drop k) k) 3 := ⟨_, rfl⟩
      rw [← hx3] at e3
      have Hrow := Lib.hid hrow
      have Hz := Lib.hid hz
      clear hrow er hcell hfr hml ho hz hx0 hx1 hx2 hx3
      rw [← Hz.out]
      go_wp2
      go_roundw
      case rel =>
        refine ⟨k + 1, by omega, by go_num, by rw [show n + (k + 1) * 4 = z + 4 by rw [Hz.out]; omega]; go_num, Hrow.out, ((((hb.setCell (p := ⟨g, k * 4, none⟩) hgb _).setCell (p := ⟨g, k * 4 + 1, none⟩) hgb _).setCell (p := ⟨g, k * 4 + 2, none⟩) hgb _).setCell (p := ⟨g, k * 4 + 3, none⟩) hgb _), fun b hb' => ?_, ?_⟩
        · rw [← HB.out b hb']
          have hne : b ≠ g := fun e => hb' (by rw [e]; rfl)
          simp only [World.setCell, Array.getElem?_modify, if_neg (fun e : g = b => hne e.symm)]
        · show _ = _
          rw [← HS.out]; simp only [World.setCell, Array.size_modify]
      case measure => simp [intOf]; omega
    · have He := Lib.hid (show k = xs.length by omega)
      go_wp2
      go_ret
      refine ⟨ret_int (by have := He.out; omega), ?_, hb, HB.out, HS.out⟩
      rw [He.out] at ho
      simpa using ho
set_option maxRecDepth 100000 in
set_option maxHeartbeats 2000000 in
theorem markDefectS_any (base : Nat) (v : Value) (xs : List (List Int)) (n : Nat) (w : World) (h : OwnT w base 82 5 v xs) (hl : xs.length ≤ 1048576) (hn : n ≤ 9000000) :
    Calls Try.prog 86 #[v, .int .i64 (n : Int)] w fun e w' => e = .returned (.int .i64 ((n + xs.length * 5 : Nat) : Int)) ∧ OwnT w' base 82 5 v (upT 5 n xs.length) ∧ Below base w w' ∧ (∀ b, some b ≠ v.ownBlock → w'.heap[b]? = w.heap[b]?) ∧ w'.heap.size = w.heap.size := by
  obtain ⟨A, c, rfl, hc, hm⟩ := h.form
  go_enter Try.func86, Try.ntmps86
  go_wp2
  go_loopw [1, 5] (fun q i wr => ∃ k : Nat, k ≤ xs.length ∧ i = .int .i64 k ∧ q = .int .i64 ((n + k * 5 : Nat) : Int) ∧ OwnT wr base 82 5 (.slice A xs.length c) (upT 5 n k ++ xs.drop k) ∧ Below base w wr ∧ Hid (∀ b, some b ≠ (Value.slice A xs.length c).ownBlock → wr.heap[b]? = w.heap[b]?) ∧ Hid (wr.heap.size = w.heap.size)) (fun _ i _ => xs.length - (intOf i).toNat)
  case atStart => exact ⟨0, by omega, rfl, by simp, by simpa [upT] using h, Below.refl _ _, fun _ _ => rfl, rfl⟩
  case round =>
    obtain ⟨k, hk, rfl, rfl, ho, hb, HB, HS⟩ := hrel
    by_cases hlt : k < xs.length
    · have hml := mid_len 5 n xs k hk
      obtain ⟨g, rfl, hgb, hgs, hcell, hfr, _⟩ := ho.at_ (i := k) (by rw [hml]; exact hlt) (by omega)
      have e0 := hcell 0 (by omega)
      have f0 := hfr 0
      have e1 := hcell 1 (by omega)
      have f1 := hfr 1
      have e2 := hcell 2 (by omega)
      have f2 := hfr 2
      have e3 := hcell 3 (by omega)
      have f3 := hfr 3
      have e4 := hcell 4 (by omega)
      have f4 := hfr 4
      rw [Nat.add_zero] at e0 f0
      obtain ⟨z, hz⟩ : ∃ z, z = n + k * 5 := ⟨_, rfl⟩
      have hz2 : z ≤ 20000000 := by omega
      have hrow := ho.row5 (i := k) (by rw [hml]; exact hlt) ((z : Int)) ((z : Int) + 1) ((z : Int) + 1 + 1) ((z : Int) + 1 + 1 + 1) ((z : Int) + 1 + 1 + 1 + 1) ⟨⟨by omega, by omega⟩, ⟨by omega, by omega⟩, ⟨by omega, by omega⟩, ⟨by omega, by omega⟩, ⟨by omega, by omega⟩⟩
      have er : [(z : Int), (z : Int) + 1, (z : Int) + 1 + 1, (z : Int) + 1 + 1 + 1, (z : Int) + 1 + 1 + 1 + 1] = (List.range 5).map fun j => ((n + k * 5 + j : Nat) : Int) := by
        rw [hz]; simp only [List.range, List.range.loop, List.map]; simp only [List.cons.injEq, and_true]; refine ⟨?_, ?_, ?_, ?_, ?_⟩ <;> omega
      rw [er, upT_set 5 n xs k hlt] at hrow
      obtain ⟨x0, hx0⟩ : ∃ x, x = gi (gr (upT 5 n k ++ xs.drop k) k) 0 := ⟨_, rfl⟩
      rw [← hx0] at e0
      obtain ⟨x1, hx1⟩ : ∃ x, x = gi (gr (upT 5 n k ++ xs.drop k) k) 1 := ⟨_, rfl⟩
      rw [← hx1] at e1
      obtain ⟨x2, hx2⟩ : ∃ x, x = gi (gr (upT 5 n k ++ xs.drop k) k) 2 := ⟨_, rfl⟩
      rw [← hx2] at e2
      obtain ⟨x3, hx3⟩ : ∃ x, x = gi (gr (upT 5 n k ++ xs.drop k) k) 3 := ⟨_, rfl⟩
      rw [← hx3] at e3
      obtain ⟨x4, hx4⟩ : ∃ x, x = gi (gr (upT 5 n k ++ xs.drop k) k) 4 := ⟨_, rfl⟩
      rw [← hx4] at e4
      have Hrow := Lib.hid hrow
      have Hz := Lib.hid hz
      clear hrow er hcell hfr hml ho hz hx0 hx1 hx2 hx3 hx4
      rw [← Hz.out]
      go_wp2
      go_roundw
      case rel =>
        refine ⟨k + 1, by omega, by go_num, by rw [show n + (k + 1) * 5 = z + 5 by rw [Hz.out]; omega]; go_num, Hrow.out, (((((hb.setCell (p := ⟨g, k * 5, none⟩) hgb _).setCell (p := ⟨g, k * 5 + 1, none⟩) hgb _).setCell (p := ⟨g, k * 5 + 2, none⟩) hgb _).setCell (p := ⟨g, k * 5 + 3, none⟩) hgb _).setCell (p := ⟨g, k * 5 + 4, none⟩) hgb _), fun b hb' => ?_, ?_⟩
        · rw [← HB.out b hb']
          have hne : b ≠ g := fun e => hb' (by rw [e]; rfl)
          simp only [World.setCell, Array.getElem?_modify, if_neg (fun e : g = b => hne e.symm)]
        · show _ = _
          rw [← HS.out]; simp only [World.setCell, Array.size_modify]
      case measure => simp [intOf]; omega
    · have He := Lib.hid (show k = xs.length by omega)
      go_wp2
      go_ret
      refine ⟨ret_int (by have := He.out; omega), ?_, hb, HB.out, HS.out⟩
      rw [He.out] at ho
      simpa using ho
set_option maxRecDepth 100000 in
set_option maxHeartbeats 2000000 in
theorem markEventS_any (base : Nat) (v : Value) (xs : List (List Int)) (n : Nat) (w : World) (h : OwnT w base 40 7 v xs) (hl : xs.length ≤ 1048576) (hn : n ≤ 9000000) :
    Calls Try.prog 31 #[v, .int .i64 (n : Int)] w fun e w' => e = .returned (.int .i64 ((n + xs.length * 7 : Nat) : Int)) ∧ OwnT w' base 40 7 v (upT 7 n xs.length) ∧ Below base w w' ∧ (∀ b, some b ≠ v.ownBlock → w'.heap[b]? = w.heap[b]?) ∧ w'.heap.size = w.heap.size := by
  obtain ⟨A, c, rfl, hc, hm⟩ := h.form
  go_enter Try.func31, Try.ntmps31
  go_wp2
  go_loopw [1, 5] (fun q i wr => ∃ k : Nat, k ≤ xs.length ∧ i = .int .i64 k ∧ q = .int .i64 ((n + k * 7 : Nat) : Int) ∧ OwnT wr base 40 7 (.slice A xs.length c) (upT 7 n k ++ xs.drop k) ∧ Below base w wr ∧ Hid (∀ b, some b ≠ (Value.slice A xs.length c).ownBlock → wr.heap[b]? = w.heap[b]?) ∧ Hid (wr.heap.size = w.heap.size)) (fun _ i _ => xs.length - (intOf i).toNat)
  case atStart => exact ⟨0, by omega, rfl, by simp, by simpa [upT] using h, Below.refl _ _, fun _ _ => rfl, rfl⟩
  case round =>
    obtain ⟨k, hk, rfl, rfl, ho, hb, HB, HS⟩ := hrel
    by_cases hlt : k < xs.length
    · have hml := mid_len 7 n xs k hk
      obtain ⟨g, rfl, hgb, hgs, hcell, hfr, _⟩ := ho.at_ (i := k) (by rw [hml]; exact hlt) (by omega)
      have e0 := hcell 0 (by omega)
      have f0 := hfr 0
      have e1 := hcell 1 (by omega)
      have f1 := hfr 1
      have e2 := hcell 2 (by omega)
      have f2 := hfr 2
      have e3 := hcell 3 (by omega)
      have f3 := hfr 3
      have e4 := hcell 4 (by omega)
      have f4 := hfr 4
      have e5 := hcell 5 (by omega)
      have f5 := hfr 5
      have e6 := hcell 6 (by omega)
      have f6 := hfr 6
      rw [Nat.add_zero] at e0 f0
      obtain ⟨z, hz⟩ : ∃ z, z = n + k * 7 := ⟨_, rfl⟩
      have hz2 : z ≤ 20000000 := by omega
      have hrow := ho.row7 (i := k) (by rw [hml]; exact hlt) ((z : Int)) ((z : Int) + 1) ((z : Int) + 1 + 1) ((z : Int) + 1 + 1 + 1) ((z : Int) + 1 + 1 + 1 + 1) ((z : Int) + 1 + 1 + 1 + 1 + 1) ((z : Int) + 1 + 1 + 1 + 1 + 1 + 1) ⟨⟨by omega, by omega⟩, ⟨by omega, by omega⟩, ⟨by omega, by omega⟩, ⟨by omega, by omega⟩, ⟨by omega, by omega⟩, ⟨by omega, by omega⟩, ⟨by omega, by omega⟩⟩
      have er : [(z : Int), (z : Int) + 1, (z : Int) + 1 + 1, (z : Int) + 1 + 1 + 1, (z : Int) + 1 + 1 + 1 + 1, (z : Int) + 1 + 1 + 1 + 1 + 1, (z : Int) + 1 + 1 + 1 + 1 + 1 + 1] = (List.range 7).map fun j => ((n + k * 7 + j : Nat) : Int) := by
        rw [hz]; simp only [List.range, List.range.loop, List.map]; simp only [List.cons.injEq, and_true]; refine ⟨?_, ?_, ?_, ?_, ?_, ?_, ?_⟩ <;> omega
      rw [er, upT_set 7 n xs k hlt] at hrow
      obtain ⟨x0, hx0⟩ : ∃ x, x = gi (gr (upT 7 n k ++ xs.drop k) k) 0 := ⟨_, rfl⟩
      rw [← hx0] at e0
      obtain ⟨x1, hx1⟩ : ∃ x, x = gi (gr (upT 7 n k ++ xs.drop k) k) 1 := ⟨_, rfl⟩
      rw [← hx1] at e1
      obtain ⟨x2, hx2⟩ : ∃ x, x = gi (gr (upT 7 n k ++ xs.drop k) k) 2 := ⟨_, rfl⟩
      rw [← hx2] at e2
      obtain ⟨x3, hx3⟩ : ∃ x, x = gi (gr (upT 7 n k ++ xs.drop k) k) 3 := ⟨_, rfl⟩
      rw [← hx3] at e3
      obtain ⟨x4, hx4⟩ : ∃ x, x = gi (gr (upT 7 n k ++ xs.drop k) k) 4 := ⟨_, rfl⟩
      rw [← hx4] at e4
      obtain ⟨x5, hx5⟩ : ∃ x, x = gi (gr (upT 7 n k ++ xs.drop k) k) 5 := ⟨_, rfl⟩
      rw [← hx5] at e5
      obtain ⟨x6, hx6⟩ : ∃ x, x = gi (gr (upT 7 n k ++ xs.drop k) k) 6 := ⟨_, rfl⟩
      rw [← hx6] at e6
      have Hrow := Lib.hid hrow
      have Hz := Lib.hid hz
      clear hrow er hcell hfr hml ho hz hx0 hx1 hx2 hx3 hx4 hx5 hx6
      rw [← Hz.out]
      go_wp2
      go_roundw
      case rel =>
        refine ⟨k + 1, by omega, by go_num, by rw [show n + (k + 1) * 7 = z + 7 by rw [Hz.out]; omega]; go_num, Hrow.out, (((((((hb.setCell (p := ⟨g, k * 7, none⟩) hgb _).setCell (p := ⟨g, k * 7 + 1, none⟩) hgb _).setCell (p := ⟨g, k * 7 + 2, none⟩) hgb _).setCell (p := ⟨g, k * 7 + 3, none⟩) hgb _).setCell (p := ⟨g, k * 7 + 4, none⟩) hgb _).setCell (p := ⟨g, k * 7 + 5, none⟩) hgb _).setCell (p := ⟨g, k * 7 + 6, none⟩) hgb _), fun b hb' => ?_, ?_⟩
        · rw [← HB.out b hb']
          have hne : b ≠ g := fun e => hb' (by rw [e]; rfl)
          simp only [World.setCell, Array.getElem?_modify, if_neg (fun e : g = b => hne e.symm)]
        · show _ = _
          rw [← HS.out]; simp only [World.setCell, Array.size_modify]
      case measure => simp [intOf]; omega
    · have He := Lib.hid (show k = xs.length by omega)
      go_wp2
      go_ret
      refine ⟨ret_int (by have := He.out; omega), ?_, hb, HB.out, HS.out⟩
      rw [He.out] at ho
      simpa using ho
end Go.Proofs.Ytcebdokdekgeaaa
