/-
  Lemmas and contracts of single functions of this program, used by the proofs of its laws: what each call returns and what becomes of memory. Conditions: the hypotheses of each theorem.
-/
import Derived.Test.YteckjiaaikdghaaReelB
namespace Go.Proofs.Yteckjiaaikdghaa
open Go.RowKit

theorem set2_set {xss : List (List Int)} {i : Nat} (hi : i < xss.length) {r : List Int} {j : Nat} {y : Int} : set2 (xss.set i r) i j y = xss.set i (r.set j y) := by
  unfold set2 gr
  rw [List.getD_eq_getElem?_getD, List.getElem?_set_self hi, Option.getD_some, List.set_set]
theorem upT_set (k n : Nat) (xs : List (List Int)) (i : Nat) (hi : i < xs.length) : (upT k n i ++ xs.drop i).set i ((List.range k).map fun j => ((n + i * k + j : Nat) : Int)) = upT k n (i + 1) ++ xs.drop (i + 1) := by
  rw [List.set_append_right _ _ (by rw [upT_len]; omega), upT_len, Nat.sub_self, drop_gr hi, List.set_cons_zero]
  have e : upT k n (i + 1) = upT k n i ++ [(List.range k).map fun j => ((n + i * k + j : Nat) : Int)] := by
    unfold upT; rw [List.range_succ, List.map_append]; rfl
  rw [e, List.append_assoc]; rfl
theorem gr_mid (k n : Nat) (xs : List (List Int)) (i : Nat) (_hi : i < xs.length) : gr (upT k n i ++ xs.drop i) i = gr xs i := by
  unfold gr
  rw [List.getD_eq_getElem?_getD, List.getElem?_append_right (by rw [upT_len]; omega), upT_len, Nat.sub_self, List.getElem?_drop]
  simp
theorem mid_len (k n : Nat) (xs : List (List Int)) (i : Nat) (hi : i ≤ xs.length) : (upT k n i ++ xs.drop i).length = xs.length := by
  rw [List.length_append, upT_len, List.length_drop]; omega
theorem OwnT.setRow {w : World} {base e k n c g : Nat} {xss : List (List Int)} {i : Nat} {r : List Int} (h : OwnT w base e k (.slice (some ⟨g, 0, none⟩) n c) (xss.set i r)) (hi : i < xss.length) (j : Nat) (hj : j < k) (y : Int) (hy : I64 y) :
    OwnT (w.setCell ⟨g, i * k + j, none⟩ (.int .i64 y)) base e k (.slice (some ⟨g, 0, none⟩) n c) (xss.set i (r.set j y)) := by
  obtain ⟨g0, e0, _, _, _, _, s0⟩ := h.at_ (i := i) (by rw [List.length_set]; exact hi) (by omega)
  simp only [Option.some.injEq, Addr.mk.injEq, and_true] at e0
  subst e0
  have h0 := s0 j y hj hy
  rw [set2_set hi] at h0
  exact h0

set_option maxHeartbeats 1000000 in
theorem OwnT.row2 {w : World} {base e n c g : Nat} {xss : List (List Int)} (h : OwnT w base e 2 (.slice (some ⟨g, 0, none⟩) n c) xss) {i : Nat} (hi : i < xss.length) (y0 y1 : Int) (hy : I64 y0 ∧ I64 y1) :
    OwnT ((w.setCell ⟨g, i * 2, none⟩ (.int .i64 y0)).setCell ⟨g, i * 2 + 1, none⟩ (.int .i64 y1)) base e 2 (.slice (some ⟨g, 0, none⟩) n c) (xss.set i [y0, y1]) := by
  obtain ⟨i0, i1⟩ := hy
  have hrow := (h.2 _ (gr_mem hi)).1
  have e0 : xss.set i (gr xss i) = xss := by rw [gr_eq hi]; exact List.set_getElem_self hi
  rw [← e0] at h
  clear e0
  obtain ⟨q, hq⟩ : ∃ q, q = gr xss i := ⟨_, rfl⟩
  rw [← hq] at hrow h
  clear hq
  match q, hrow, h with
  | [a0, a1], _, h =>
    have h0 := h.setRow hi 0 (by omega) y0 i0
    rw [Nat.add_zero] at h0
    rw [show ([a0, a1] : List Int).set 0 y0 = [y0, a1] from rfl] at h0
    have h1 := h0.setRow hi 1 (by omega) y1 i1
    rw [show ([y0, a1] : List Int).set 1 y1 = [y0, y1] from rfl] at h1
    exact h1
set_option maxHeartbeats 1000000 in
theorem OwnT.row4 {w : World} {base e n c g : Nat} {xss : List (List Int)} (h : OwnT w base e 4 (.slice (some ⟨g, 0, none⟩) n c) xss) {i : Nat} (hi : i < xss.length) (y0 y1 y2 y3 : Int) (hy : I64 y0 ∧ I64 y1 ∧ I64 y2 ∧ I64 y3) :
    OwnT ((((w.setCell ⟨g, i * 4, none⟩ (.int .i64 y0)).setCell ⟨g, i * 4 + 1, none⟩ (.int .i64 y1)).setCell ⟨g, i * 4 + 2, none⟩ (.int .i64 y2)).setCell ⟨g, i * 4 + 3, none⟩ (.int .i64 y3)) base e 4 (.slice (some ⟨g, 0, none⟩) n c) (xss.set i [y0, y1, y2, y3]) := by
  obtain ⟨i0, i1, i2, i3⟩ := hy
  have hrow := (h.2 _ (gr_mem hi)).1
  have e0 : xss.set i (gr xss i) = xss := by rw [gr_eq hi]; exact List.set_getElem_self hi
  rw [← e0] at h
  clear e0
  obtain ⟨q, hq⟩ : ∃ q, q = gr xss i := ⟨_, rfl⟩
  rw [← hq] at hrow h
  clear hq
  match q, hrow, h with
  | [a0, a1, a2, a3], _, h =>
    have h0 := h.setRow hi 0 (by omega) y0 i0
    rw [Nat.add_zero] at h0
    rw [show ([a0, a1, a2, a3] : List Int).set 0 y0 = [y0, a1, a2, a3] from rfl] at h0
    have h1 := h0.setRow hi 1 (by omega) y1 i1
    rw [show ([y0, a1, a2, a3] : List Int).set 1 y1 = [y0, y1, a2, a3] from rfl] at h1
    have h2 := h1.setRow hi 2 (by omega) y2 i2
    rw [show ([y0, y1, a2, a3] : List Int).set 2 y2 = [y0, y1, y2, a3] from rfl] at h2
    have h3 := h2.setRow hi 3 (by omega) y3 i3
    rw [show ([y0, y1, y2, a3] : List Int).set 3 y3 = [y0, y1, y2, y3] from rfl] at h3
    exact h3
set_option maxHeartbeats 1000000 in
theorem OwnT.row5 {w : World} {base e n c g : Nat} {xss : List (List Int)} (h : OwnT w base e 5 (.slice (some ⟨g, 0, none⟩) n c) xss) {i : Nat} (hi : i < xss.length) (y0 y1 y2 y3 y4 : Int) (hy : I64 y0 ∧ I64 y1 ∧ I64 y2 ∧ I64 y3 ∧ I64 y4) :
    OwnT (((((w.setCell ⟨g, i * 5, none⟩ (.int .i64 y0)).setCell ⟨g, i * 5 + 1, none⟩ (.int .i64 y1)).setCell ⟨g, i * 5 + 2, none⟩ (.int .i64 y2)).setCell ⟨g, i * 5 + 3, none⟩ (.int .i64 y3)).setCell ⟨g, i * 5 + 4, none⟩ (.int .i64 y4)) base e 5 (.slice (some ⟨g, 0, none⟩) n c) (xss.set i [y0, y1, y2, y3, y4]) := by
  obtain ⟨i0, i1, i2, i3, i4⟩ := hy
  have hrow := (h.2 _ (gr_mem hi)).1
  have e0 : xss.set i (gr xss i) = xss := by rw [gr_eq hi]; exact List.set_getElem_self hi
  rw [← e0] at h
  clear e0
  obtain ⟨q, hq⟩ : ∃ q, q = gr xss i := ⟨_, rfl⟩
  rw [← hq] at hrow h
  clear hq
  match q, hrow, h with
  | [a0, a1, a2, a3, a4], _, h =>
    have h0 := h.setRow hi 0 (by omega) y0 i0
    rw [Nat.add_zero] at h0
    rw [show ([a0, a1, a2, a3, a4] : List Int).set 0 y0 = [y0, a1, a2, a3, a4] from rfl] at h0
    have h1 := h0.setRow hi 1 (by omega) y1 i1
    rw [show ([y0, a1, a2, a3, a4] : List Int).set 1 y1 = [y0, y1, a2, a3, a4] from rfl] at h1
    have h2 := h1.setRow hi 2 (by omega) y2 i2
    rw [show ([y0, y1, a2, a3, a4] : List Int).set 2 y2 = [y0, y1, y2, a3, a4] from rfl] at h2
    have h3 := h2.setRow hi 3 (by omega) y3 i3
    rw [show ([y0, y1, y2, a3, a4] : List Int).set 3 y3 = [y0, y1, y2, y3, a4] from rfl] at h3
    have h4 := h3.setRow hi 4 (by omega) y4 i4
    rw [show ([y0, y1, y2, y3, a4] : List Int).set 4 y4 = [y0, y1, y2, y3, y4] from rfl] at h4
    exact h4
set_option maxHeartbeats 1000000 in
theorem OwnT.row7 {w : World} {base e n c g : Nat} {xss : List (List Int)} (h : OwnT w base e 7 (.slice (some ⟨g, 0, none⟩) n c) xss) {i : Nat} (hi : i < xss.length) (y0 y1 y2 y3 y4 y5 y6 : Int) (hy : I64 y0 ∧ I64 y1 ∧ I64 y2 ∧ I64 y3 ∧ I64 y4 ∧ I64 y5 ∧ I64 y6) :
    OwnT (((((((w.setCell ⟨g, i * 7, none⟩ (.int .i64 y0)).setCell ⟨g, i * 7 + 1, none⟩ (.int .i64 y1)).setCell ⟨g, i * 7 + 2, none⟩ (.int .i64 y2)).setCell ⟨g, i * 7 + 3, none⟩ (.int .i64 y3)).setCell ⟨g, i * 7 + 4, none⟩ (.int .i64 y4)).setCell ⟨g, i * 7 + 5, none⟩ (.int .i64 y5)).setCell ⟨g, i * 7 + 6, none⟩ (.int .i64 y6)) base e 7 (.slice (some ⟨g, 0, none⟩) n c) (xss.set i [y0, y1, y2, y3, y4, y5, y6]) := by
  obtain ⟨i0, i1, i2, i3, i4, i5, i6⟩ := hy
  have hrow := (h.2 _ (gr_mem hi)).1
  have e0 : xss.set i (gr xss i) = xss := by rw [gr_eq hi]; exact List.set_getElem_self hi
  rw [← e0] at h
  clear e0
  obtain ⟨q, hq⟩ : ∃ q, q = gr xss i := ⟨_, rfl⟩
  rw [← hq] at hrow h
  clear hq
  match q, hrow, h with
  | [a0, a1, a2, a3, a4, a5, a6], _, h =>
    have h0 := h.setRow hi 0 (by omega) y0 i0
    rw [Nat.add_zero] at h0
    rw [show ([a0, a1, a2, a3, a4, a5, a6] : List Int).set 0 y0 = [y0, a1, a2, a3, a4, a5, a6] from rfl] at h0
    have h1 := h0.setRow hi 1 (by omega) y1 i1
    rw [show ([y0, a1, a2, a3, a4, a5, a6] : List Int).set 1 y1 = [y0, y1, a2, a3, a4, a5, a6] from rfl] at h1
    have h2 := h1.setRow hi 2 (by omega) y2 i2
    rw [show ([y0, y1, a2, a3, a4, a5, a6] : List Int).set 2 y2 = [y0, y1, y2, a3, a4, a5, a6] from rfl] at h2
    have h3 := h2.setRow hi 3 (by omega) y3 i3
    rw [show ([y0, y1, y2, a3, a4, a5, a6] : List Int).set 3 y3 = [y0, y1, y2, y3, a4, a5, a6] from rfl] at h3
    have h4 := h3.setRow hi 4 (by omega) y4 i4
    rw [show ([y0, y1, y2, y3, a4, a5, a6] : List Int).set 4 y4 = [y0, y1, y2, y3, y4, a5, a6] from rfl] at h4
    have h5 := h4.setRow hi 5 (by omega) y5 i5
    rw [show ([y0, y1, y2, y3, y4, a5, a6] : List Int).set 5 y5 = [y0, y1, y2, y3, y4, y5, a6] from rfl] at h5
    have h6 := h5.setRow hi 6 (by omega) y6 i6
    rw [show ([y0, y1, y2, y3, y4, y5, a6] : List Int).set 6 y6 = [y0, y1, y2, y3, y4, y5, y6] from rfl] at h6
    exact h6
end Go.Proofs.Yteckjiaaikdghaa
