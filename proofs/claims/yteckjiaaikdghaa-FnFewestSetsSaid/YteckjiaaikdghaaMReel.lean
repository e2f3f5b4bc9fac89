/-
  Lemmas and contracts of single functions of this program, used by the proofs of its laws: what each call returns and what becomes of memory. Conditions: the hypotheses of each theorem.
-/
import Derived.Test.YteckjiaaikdghaaTup
import Derived.Test.YteckjiaaikdghaaLeafA
import Derived.BigGuardPart
import Derived.Deep.RegionHeld3
import Derived.Deep.RegionWith
import Derived.Deep.DrawnRows
import Derived.Deep.CutRange
import Derived.Test.YteckjiaaikdghaaOwn
namespace Go.Proofs.Yteckjiaaikdghaa
open Go.RowKit

def insB (l r f t W L : Int) : Bool := decide (0 ≤ l) && decide (l < r) && decide (r ≤ W) && decide (0 ≤ f) && decide (f < t) && decide (t ≤ L)
def meetB (l1 r1 f1 t1 l2 r2 f2 t2 : Int) : Bool := decide (l1 < r2) && decide (l2 < r1) && decide (f1 < t2) && decide (f2 < t1)
theorem insB_true {l r f t W L : Int} (h : insB l r f t W L = true) : 0 ≤ l ∧ l < r ∧ r ≤ W ∧ 0 ≤ f ∧ f < t ∧ t ≤ L := by unfold insB at h; simp at h; omega
theorem insB_iff {l r f t W L : Int} : insB l r f t W L = true ↔ 0 ≤ l ∧ l < r ∧ r ≤ W ∧ 0 ≤ f ∧ f < t ∧ t ≤ L := ⟨insB_true, fun h => by unfold insB; simp; omega⟩
theorem meetB_iff {l1 r1 f1 t1 l2 r2 f2 t2 : Int} : meetB l1 r1 f1 t1 l2 r2 f2 t2 = true ↔ l1 < r2 ∧ l2 < r1 ∧ f1 < t2 ∧ f2 < t1 := by unfold meetB; simp; omega
/-- what is there stays, behind a call that makes memory alone -/
theorem keepB {W w1 : World} {a : Addr} {v : Value} (hb : Below W.heap.size W w1) (h : W.cell? a = some v) : w1.cell? a = some v := (hb.cell (World.block_lt_of_cell? W _ h)).trans h
theorem of_drew {w x : World} (h : Below w.drew.heap.size w.drew x) : Below w.heap.size w x := ⟨h.os, h.tape, h.output, h.size, h.block⟩
/-- a struct value of five, of four ints -/
def agg5 (d : List Int) : Value := .agg #[.int .i64 (gi d 0), .int .i64 (gi d 1), .int .i64 (gi d 2), .int .i64 (gi d 3), .int .i64 (gi d 4)]
def agg4 (d : List Int) : Value := .agg #[.int .i64 (gi d 0), .int .i64 (gi d 1), .int .i64 (gi d 2), .int .i64 (gi d 3)]
def dOk (W L : Int) (d : List Int) : Bool := insB (gi d 0) (gi d 1) (gi d 2) (gi d 3) W L && (decide (1 ≤ gi d 4) && decide (gi d 4 ≤ 9))
def vReel (W L : Int) (ds : List (List Int)) : Bool := decide (1 ≤ W) && decide (W ≤ 60) && decide (1 ≤ L) && decide (L ≤ 400) && decide (ds.length ≤ 16) && ds.all (dOk W L)
theorem vReel_iff {W L : Int} {ds : List (List Int)} : vReel W L ds = true ↔ 1 ≤ W ∧ W ≤ 60 ∧ 1 ≤ L ∧ L ≤ 400 ∧ ds.length ≤ 16 ∧ ∀ d ∈ ds, dOk W L d = true := by
  unfold vReel
  simp only [Bool.and_eq_true, decide_eq_true_eq, List.all_eq_true, and_assoc]
theorem vReel_no {W L : Int} {ds : List (List Int)} {k : Nat} (hk : k < ds.length) (h : dOk W L (gr ds k) = false) : vReel W L ds = false := by
  cases hv : vReel W L ds
  · rfl
  · have := (vReel_iff.1 hv).2.2.2.2.2 _ (gr_mem hk)
    rw [h] at this; cases this
theorem vReel_false {W L : Int} {ds : List (List Int)} (h : ¬ (1 ≤ W ∧ W ≤ 60 ∧ 1 ≤ L ∧ L ≤ 400 ∧ ds.length ≤ 16)) : vReel W L ds = false := by
  cases hv : vReel W L ds
  · rfl
  · have := vReel_iff.1 hv; omega


end Go.Proofs.Yteckjiaaikdghaa

namespace Go.Proofs.Yteckjiaaikdghaa
open Go.RowKit
attribute [local go_sem ↓] Go.wp_at_zero Go.wp_at_succ

end Go.Proofs.Yteckjiaaikdghaa

namespace Go.Proofs.Yteckjiaaikdghaa
open Go.RowKit

theorem set2_set {xss : List (List Int)} {i : Nat} (hi : i < xss.length) {r : List Int} {j : Nat} {y : Int} : set2 (xss.set i r) i j y = xss.set i (r.set j y) := by
  unfold set2 gr
  rw [List.getD_eq_getElem?_getD, List.getElem?_set_self hi, Option.getD_some, List.set_set]
theorem upT_set (k n : Nat) (xs : List (List Int)) (i : Nat) (hi : i < xs.length) : (upT k n i ++ xs.drop i).set i ((List.range k).map fun j => ((n + i * k + j : Nat) : Int)) = upT k n (i + 1) ++ xs.drop (i + 1) := by
  rw [List.set_append_right _ _ (by rw [upT_len]; omega), upT_len, Nat.sub_self, drop_gr hi, List.set_cons_zero]
  have e : upT k n (i + 1) = upT k n i ++ [(List.range k).map fun j => ((n + i * k + j : Nat) : Int)] := by
    unfold upT; rw [List.range_succ, List.map_append]; rfl
  rw [e, List.append_assoc]; rfl
theorem gr_mid (k n : Nat) (xs : List (List Int)) (i : Nat) (_hi : i < xs.length) : gr (upT k n i ++ xs.drop i) i = gr xs i := by
  unfold gr
  rw [List.getD_eq_getElem?_getD, List.getElem?_append_right (by rw [upT_len]; omega), upT_len, Nat.sub_self, List.getElem?_drop]
  simp
theorem mid_len (k n : Nat) (xs : List (List Int)) (i : Nat) (hi : i ≤ xs.length) : (upT k n i ++ xs.drop i).length = xs.length := by
  rw [List.length_append, upT_len, List.length_drop]; omega
theorem OwnT.setRow {w : World} {base e k n c g : Nat} {xss : List (List Int)} {i : Nat} {r : List Int} (h : OwnT w base e k (.slice (some ⟨g, 0, none⟩) n c) (xss.set i r)) (hi : i < xss.length) (j : Nat) (hj : j < k) (y : Int) (hy : I64 y) :
    OwnT (w.setCell ⟨g, i * k + j, none⟩ (.int .i64 y)) base e k (.slice (some ⟨g, 0, none⟩) n c) (xss.set i (r.set j y)) := by
  obtain ⟨g0, e0, _, _, _, _, s0⟩ := h.at_ (i := i) (by rw [List.length_set]; exact hi) (by omega)
  simp only [Option.some.injEq, Addr.mk.injEq, and_true] at e0
  subst e0
  have h0 := s0 j y hj hy
  rw [set2_set hi] at h0
  exact h0

set_option maxHeartbeats 1000000 in
theorem OwnT.row2 {w : World} {base e n c g : Nat} {xss : List (List Int)} (h : OwnT w base e 2 (.slice (some ⟨g, 0, none⟩) n c) xss) {i : Nat} (hi : i < xss.length) (y0 y1 : Int) (hy : I64 y0 ∧ I64 y1) :
    OwnT ((w.setCell ⟨g, i * 2, none⟩ (.int .i64 y0)).setCell ⟨g, i * 2 + 1, none⟩ (.int .i64 y1)) base e 2 (.slice (some ⟨g, 0, none⟩) n c) (xss.set i [y0, y1]) := by
  obtain ⟨i0, i1⟩ := hy
  have hrow := (h.2 _ (gr_mem hi)).1
  have e0 : xss.set i (gr xss i) = xss := by rw [gr_eq hi]; exact List.set_getElem_self hi
  rw [← e0] at h
  clear e0
  obtain ⟨q, hq⟩ : ∃ q, q = gr xss i := ⟨_, rfl⟩
  rw [← hq] at hrow h
  clear hq
  match q, hrow, h with
  | [a0, a1], _, h =>
    have h0 := h.setRow hi 0 (by omega) y0 i0
    rw [Nat.add_zero] at h0
    rw [show ([a0, a1] : List Int).set 0 y0 = [y0, a1] from rfl] at h0
    have h1 := h0.setRow hi 1 (by omega) y1 i1
    rw [show ([y0, a1] : List Int).set 1 y1 = [y0, y1] from rfl] at h1
    exact h1
set_option maxHeartbeats 1000000 in
theorem OwnT.row4 {w : World} {base e n c g : Nat} {xss : List (List Int)} (h : OwnT w base e 4 (.slice (some ⟨g, 0, none⟩) n c) xss) {i : Nat} (hi : i < xss.length) (y0 y1 y2 y3 : Int) (hy : I64 y0 ∧ I64 y1 ∧ I64 y2 ∧ I64 y3) :
    OwnT ((((w.setCell ⟨g, i * 4, none⟩ (.int .i64 y0)).setCell ⟨g, i * 4 + 1, none⟩ (.int .i64 y1)).setCell ⟨g, i * 4 + 2, none⟩ (.int .i64 y2)).setCell ⟨g, i * 4 + 3, none⟩ (.int .i64 y3)) base e 4 (.slice (some ⟨g, 0, none⟩) n c) (xss.set i [y0, y1, y2, y3]) := by
  obtain ⟨i0, i1, i2, i3⟩ := hy
  have hrow := (h.2 _ (gr_mem hi)).1
  have e0 : xss.set i (gr xss i) = xss := by rw [gr_eq hi]; exact List.set_getElem_self hi
  rw [← e0] at h
  clear e0
  obtain ⟨q, hq⟩ : ∃ q, q = gr xss i := ⟨_, rfl⟩
  rw [← hq] at hrow h
  clear hq
  match q, hrow, h with
  | [a0, a1, a2, a3], _, h =>
    have h0 := h.setRow hi 0 (by omega) y0 i0
    rw [Nat.add_zero] at h0
    rw [show ([a0, a1, a2, a3] : List Int).set 0 y0 = [y0, a1, a2, a3] from rfl] at h0
    have h1 := h0.setRow hi 1 (by omega) y1 i1
    rw [show ([y0, a1, a2, a3] : List Int).set 1 y1 = [y0, y1, a2, a3] from rfl] at h1
    have h2 := h1.setRow hi 2 (by omega) y2 i2
    rw [show ([y0, y1, a2, a3] : List Int).set 2 y2 = [y0, y1, y2, a3] from rfl] at h2
    have h3 := h2.setRow hi 3 (by omega) y3 i3
    rw [show ([y0, y1, y2, a3] : List Int).set 3 y3 = [y0, y1, y2, y3] from rfl] at h3
    exact h3
set_option maxHeartbeats 1000000 in
theorem OwnT.row5 {w : World} {base e n c g : Nat} {xss : List (List Int)} (h : OwnT w base e 5 (.slice (some ⟨g, 0, none⟩) n c) xss) {i : Nat} (hi : i < xss.length) (y0 y1 y2 y3 y4 : Int) (hy : I64 y0 ∧ I64 y1 ∧ I64 y2 ∧ I64 y3 ∧ I64 y4) :
    OwnT (((((w.setCell ⟨g, i * 5, none⟩ (.int .i64 y0)).setCell ⟨g, i * 5 + 1, none⟩ (.int .i64 y1)).setCell ⟨g, i * 5 + 2, none⟩ (.int .i64 y2)).setCell ⟨g, i * 5 + 3, none⟩ (.int .i64 y3)).setCell ⟨g, i * 5 + 4, none⟩ (.int .i64 y4)) base e 5 (.slice (some ⟨g, 0, none⟩) n c) (xss.set i [y0, y1, y2, y3, y4]) := by
  obtain ⟨i0, i1, i2, i3, i4⟩ := hy
  have hrow := (h.2 _ (gr_mem hi)).1
  have e0 : xss.set i (gr xss i) = xss := by rw [gr_eq hi]; exact List.set_getElem_self hi
  rw [← e0] at h
  clear e0
  obtain ⟨q, hq⟩ : ∃ q, q = gr xss i := ⟨_, rfl⟩
  rw [← hq] at hrow h
  clear hq
  match q, hrow, h with
  | [a0, a1, a2, a3, a4], _, h =>
    have h0 := h.setRow hi 0 (by omega) y0 i0
    rw [Nat.add_zero] at h0
    rw [show ([a0, a1, a2, a3, a4] : List Int).set 0 y0 = [y0, a1, a2, a3, a4] from rfl] at h0
    have h1 := h0.setRow hi 1 (by omega) y1 i1
    rw [show ([y0, a1, a2, a3, a4] : List Int).set 1 y1 = [y0, y1, a2, a3, a4] from rfl] at h1
    have h2 := h1.setRow hi 2 (by omega) y2 i2
    rw [show ([y0, y1, a2, a3, a4] : List Int).set 2 y2 = [y0, y1, y2, a3, a4] from rfl] at h2
    have h3 := h2.setRow hi 3 (by omega) y3 i3
    rw [show ([y0, y1, y2, a3, a4] : List Int).set 3 y3 = [y0, y1, y2, y3, a4] from rfl] at h3
    have h4 := h3.setRow hi 4 (by omega) y4 i4
    rw [show ([y0, y1, y2, y3, a4] : List Int).set 4 y4 = [y0, y1, y2, y3, y4] from rfl] at h4
    exact h4
set_option maxHeartbeats 1000000 in
theorem OwnT.row7 {w : World} {base e n c g : Nat} {xss : List (List Int)} (h : OwnT w base e 7 (.slice (some ⟨g, 0, none⟩) n c) xss) {i : Nat} (hi : i < xss.length) (y0 y1 y2 y3 y4 y5 y6 : Int) (hy : I64 y0 ∧ I64 y1 ∧ I64 y2 ∧ I64 y3 ∧ I64 y4 ∧ I64 y5 ∧ I64 y6) :
    OwnT (((((((w.setCell ⟨g, i * 7, none⟩ (.int .i64 y0)).setCell ⟨g, i * 7 + 1, none⟩ (.int .i64 y1)).setCell ⟨g, i * 7 + 2, none⟩ (.int .i64 y2)).setCell ⟨g, i * 7 + 3, none⟩ (.int .i64 y3)).setCell ⟨g, i * 7 + 4, none⟩ (.int .i64 y4)).setCell ⟨g, i * 7 + 5, none⟩ (.int .i64 y5)).setCell ⟨g, i * 7 + 6, none⟩ (.int .i64 y6)) base e 7 (.slice (some ⟨g, 0, none⟩) n c) (xss.set i [y0, y1, y2, y3, y4, y5, y6]) := by
  obtain ⟨i0, i1, i2, i3, i4, i5, i6⟩ := hy
  have hrow := (h.2 _ (gr_mem hi)).1
  have e0 : xss.set i (gr xss i) = xss := by rw [gr_eq hi]; exact List.set_getElem_self hi
  rw [← e0] at h
  clear e0
  obtain ⟨q, hq⟩ : ∃ q, q = gr xss i := ⟨_, rfl⟩
  rw [← hq] at hrow h
  clear hq
  match q, hrow, h with
  | [a0, a1, a2, a3, a4, a5, a6], _, h =>
    have h0 := h.setRow hi 0 (by omega) y0 i0
    rw [Nat.add_zero] at h0
    rw [show ([a0, a1, a2, a3, a4, a5, a6] : List Int).set 0 y0 = [y0, a1, a2, a3, a4, a5, a6] from rfl] at h0
    have h1 := h0.setRow hi 1 (by omega) y1 i1
    rw [show ([y0, a1, a2, a3, a4, a5, a6] : List Int).set 1 y1 = [y0, y1, a2, a3, a4, a5, a6] from rfl] at h1
    have h2 := h1.setRow hi 2 (by omega) y2 i2
    rw [show ([y0, y1, a2, a3, a4, a5, a6] : List Int).set 2 y2 = [y0, y1, y2, a3, a4, a5, a6] from rfl] at h2
    have h3 := h2.setRow hi 3 (by omega) y3 i3
    rw [show ([y0, y1, y2, a3, a4, a5, a6] : List Int).set 3 y3 = [y0, y1, y2, y3, a4, a5, a6] from rfl] at h3
    have h4 := h3.setRow hi 4 (by omega) y4 i4
    rw [show ([y0, y1, y2, y3, a4, a5, a6] : List Int).set 4 y4 = [y0, y1, y2, y3, y4, a5, a6] from rfl] at h4
    have h5 := h4.setRow hi 5 (by omega) y5 i5
    rw [show ([y0, y1, y2, y3, y4, a5, a6] : List Int).set 5 y5 = [y0, y1, y2, y3, y4, y5, a6] from rfl] at h5
    have h6 := h5.setRow hi 6 (by omega) y6 i6
    rw [show ([y0, y1, y2, y3, y4, y5, a6] : List Int).set 6 y6 = [y0, y1, y2, y3, y4, y5, y6] from rfl] at h6
    exact h6
end Go.Proofs.Yteckjiaaikdghaa

namespace Go.Proofs.Yteckjiaaikdghaa
open Go.RowKit

theorem made_all {z : Array Value} {c : Value} {n : Nat} (h : ∀ j, z[j % z.size]! = c) : (madeCells z n).toList = List.replicate n c := by
  apply List.ext_getElem (by simp [size_madeCells])
  intro j h1 h2
  simp [madeCells, h]
theorem OwnT.made {w : World} {base e k n c : Nat} {A : Option Addr} (h : w.ownsRow base e k (.slice A n c) n (List.replicate (n * k) (.int .i64 0))) : OwnT w base e k (.slice A n c) (List.replicate n (List.replicate k 0)) := by
  refine ⟨?_, fun x hx => ?_⟩
  · have e1 : flatT (List.replicate n (List.replicate k 0)) = List.replicate (n * k) (.int .i64 0) := by
      unfold flatT; rw [List.flatten_replicate_replicate, List.map_replicate]
    rw [List.length_replicate, e1]; exact h
  · rw [(List.mem_replicate.1 hx).2]
    exact ⟨List.length_replicate, fun y hy => by rw [(List.mem_replicate.1 hy).2]; exact ⟨by omega, by omega⟩⟩
theorem wpList_makeT {P : Program} {t e : TypeId} {z : Value} {k bytes : Nat} (S : SlT P t e z k bytes) (hz : ∀ j, z.cells[j % z.cells.size]! = .int .i64 0) (hby : bytes ≤ 100) {ops : Array Oper} {rest : List Oper} {o : Oper} {a : Act} {Q : Exit → Act → World → Prop} (w : World) (hgd : o.guard = none) (l c : Operand)
    (ho : o.op = Op.makeSlice t l c) (base n : Nat) (hl : a.eval l = .int .i64 (n : Int)) (hc : a.eval c = .int .i64 (n : Int)) (hn : n ≤ 1099511627776) (hb : base ≤ w.heap.size)
    (h : ∀ w', OwnT w' base e k (.slice (some ⟨w.heap.size, 0, none⟩) n n) (List.replicate n (List.replicate k 0)) → Below w.heap.size w w' → w.heap.size < w'.heap.size → wpList P ops Q rest (a.put o.dst (.slice (some ⟨w.heap.size, 0, none⟩) n n)) w') :
    wpList P ops Q (o :: rest) a w := by
  obtain ⟨i, hi, hz1, hz2, hz3⟩ := info_parts S.hi
  have hby2 : bytes * n ≤ 100 * 1099511627776 := Nat.mul_le_mul hby hn
  refine wpList_make_full w hgd l c t ho base e i _ k S.ht hi hz1 hz2 .i64 .i64 _ _ n hl hc rfl rfl (by rw [hz3]; omega) (by unfold maxLen; omega) hb fun w' k1 k2 => ?_
  have hlt := (k1.lt _ rfl).2
  rw [made_all hz] at k1
  exact h w' (OwnT.made k1) ((Below.refl _ _).grown k2 (Nat.le_refl _) fun k hk => by cases hk) hlt
theorem OwnT.at' {w : World} {base e k n c g : Nat} {xss : List (List Int)} (h : OwnT w base e k (.slice (some ⟨g, 0, none⟩) n c) xss) {i : Nat} (hi : i < xss.length) (h0 : 0 < k) :
    base ≤ g ∧ g < w.heap.size ∧ (∀ j, j < k → w.cell? ⟨g, i * k + j, none⟩ = some (.int .i64 (gi (gr xss i) j))) ∧ (∀ j, w.frozen? ⟨g, i * k + j, none⟩ = false) := by
  obtain ⟨g', e1, a, b, c1, d, _⟩ := h.at_ hi h0
  injection e1 with e2
  injection e2 with e3
  subst e3
  exact ⟨a, b, c1, d⟩
theorem rep_set {k : Nat} {r : List Int} (xs : List (List Int)) (i : Nat) (hi : i < xs.length) (hr : gr xs i = r) : (xs.take i ++ (List.replicate xs.length (List.replicate k 0)).drop i).set i r = xs.take (i + 1) ++ (List.replicate xs.length (List.replicate k 0)).drop (i + 1) := by
  subst hr
  have hm : i < (List.replicate xs.length (List.replicate k (0 : Int))).length := by rw [List.length_replicate]; exact hi
  rw [take_gr hi, List.set_append_right _ _ (by rw [List.length_take]; omega), List.length_take, Nat.min_eq_left (by omega), Nat.sub_self, drop_gr hm, List.set_cons_zero, List.append_assoc]; rfl

end Go.Proofs.Yteckjiaaikdghaa

namespace Go.Proofs.Yteckjiaaikdghaa
open Go.RowKit
attribute [local go_sem ↓] Go.wp_at_zero Go.wp_at_succ

theorem w64 {n : Int} (h : -9223372036854775808 ≤ n ∧ n ≤ 9223372036854775807) : wrap64 n = n := by unfold wrap64; omega
/-- 'validPart' of the reference, wraps and all -/
def spB (l r f t W L : Int) : Bool := inR 0 (wrap64 (W - 1)) l && inR (wrap64 (l + 1)) W r && inR 0 (wrap64 (L - 1)) f && inR (wrap64 (f + 1)) L t
theorem spB_ins {l r f t W L : Int} (h1 : 1 ≤ W) (h2 : W ≤ 60) (h3 : 1 ≤ L) (h4 : L ≤ 400) : spB l r f t W L = insB l r f t W L := by
  have w1 : wrap64 (W - 1) = W - 1 := w64 (by omega)
  have w2 : wrap64 (L - 1) = L - 1 := w64 (by omega)
  unfold spB
  rw [w1, w2]
  by_cases a : 0 ≤ l ∧ l ≤ W - 1
  · have w3 : wrap64 (l + 1) = l + 1 := w64 (by omega)
    rw [w3]
    by_cases b : 0 ≤ f ∧ f ≤ L - 1
    · have w4 : wrap64 (f + 1) = f + 1 := w64 (by omega)
      rw [w4, Bool.eq_iff_iff, insB_iff]
      unfold inR; simp; omega
    · rw [inR_no b]
      cases e : insB l r f t W L
      · simp
      · have := insB_true e; omega
  · rw [inR_no a]
    cases e : insB l r f t W L
    · simp
    · have := insB_true e; omega
def neighB (a b : List Int) : Bool :=
  ((decide (gi a 1 = gi b 0) || decide (gi b 1 = gi a 0)) && (decide (gi a 2 < gi b 3) && decide (gi b 2 < gi a 3))) ||
  ((decide (gi a 3 = gi b 2) || decide (gi b 3 = gi a 2)) && (decide (gi a 0 < gi b 1) && decide (gi b 0 < gi a 1)))

end Go.Proofs.Yteckjiaaikdghaa

namespace Go.Proofs.Yteckjiaaikdghaa
open Go.RowKit
attribute [local go_sem ↓] Go.wp_at_zero Go.wp_at_succ
end Go.Proofs.Yteckjiaaikdghaa

namespace Go.Proofs.Yteckjiaaikdghaa
open Go.RowKit
attribute [local go_sem ↓] Go.wp_at_zero Go.wp_at_succ

def mT (d p : List Int) : Bool := meetB (gi d 0) (gi d 1) (gi d 2) (gi d 3) (gi p 0) (gi p 1) (gi p 2) (gi p 3)
def worstL (ds : List (List Int)) (p : List Int) : Int := ds.foldl (fun m d => if mT d p = true then max m (gi d 4) else m) 0
theorem worst_succ {ds : List (List Int)} {p : List Int} {k : Nat} (h : k < ds.length) : worstL (ds.take (k + 1)) p = if mT (gr ds k) p = true then max (worstL (ds.take k) p) (gi (gr ds k) 4) else worstL (ds.take k) p := by
  unfold worstL; rw [take_gr h, List.foldl_append]; rfl
theorem meetB_comm (a b c d a' b' c' d' : Int) : meetB a b c d a' b' c' d' = meetB a' b' c' d' a b c d := by
  rw [Bool.eq_iff_iff, meetB_iff, meetB_iff]; omega
end Go.Proofs.Yteckjiaaikdghaa

namespace Go.Proofs.Yteckjiaaikdghaa
open Go.RowKit
attribute [local go_sem ↓] Go.wp_at_zero Go.wp_at_succ

def pv (p : List Int) (W L : Int) : Bool := insB (gi p 0) (gi p 1) (gi p 2) (gi p 3) W L
end Go.Proofs.Yteckjiaaikdghaa

namespace Go.Proofs.Yteckjiaaikdghaa
open Go.RowKit
attribute [local go_sem ↓] Go.wp_at_zero Go.wp_at_succ

def noMeet (ps : List (List Int)) (p : List Int) (m : Nat) : Bool := (ps.take m).all fun q => !mT p q
def cutOk (W L : Int) (ps : List (List Int)) (j : Nat) : Bool := pv (gr ps j) W L && noMeet ps (gr ps j) j
def vCuts (W L : Int) (ds ps : List (List Int)) : Bool := vReel W L ds && decide (ps.length ≤ 60) && (List.range ps.length).all (cutOk W L ps)
theorem vCuts_iff {W L : Int} {ds ps : List (List Int)} : vCuts W L ds ps = true ↔ vReel W L ds = true ∧ ps.length ≤ 60 ∧ ∀ j, j < ps.length → cutOk W L ps j = true := by
  unfold vCuts
  simp only [Bool.and_eq_true, decide_eq_true_eq, List.all_eq_true, List.mem_range, and_assoc]
theorem noMeet_iff {ps : List (List Int)} {p : List Int} {m : Nat} (hm : m ≤ ps.length) : noMeet ps p m = true ↔ ∀ i, i < m → mT p (gr ps i) = false := by
  unfold noMeet
  rw [List.all_eq_true]
  constructor
  · intro h i hi
    have := h (gr ps i) (by rw [gr_eq (by omega), List.mem_take_iff_getElem]; exact ⟨i, by omega, rfl⟩)
    simpa using this
  · intro h q hq
    obtain ⟨i, hi, rfl⟩ := List.mem_take_iff_getElem.1 hq
    have := h i (by omega)
    rw [gr_eq (by omega)] at this
    simp [this]
theorem vCuts_no {W L : Int} {ds ps : List (List Int)} {j : Nat} (hj : j < ps.length) (h : vReel W L ds = true → cutOk W L ps j = false) : vCuts W L ds ps = false := by
  cases hv : vCuts W L ds ps
  · rfl
  · obtain ⟨a, _, c⟩ := vCuts_iff.1 hv
    have := c j hj; rw [h a] at this; cases this
theorem cut_meet {W L : Int} {ps : List (List Int)} {j i : Nat} (hj : j < ps.length) (hi : i < j) (h : mT (gr ps j) (gr ps i) = true) : cutOk W L ps j = false := by
  cases hv : cutOk W L ps j
  · rfl
  · unfold cutOk at hv
    rw [Bool.and_eq_true] at hv
    have := (noMeet_iff (by omega)).1 hv.2 i hi
    rw [h] at this; cases this
theorem cut_part {W L : Int} {ps : List (List Int)} {j : Nat} (h : pv (gr ps j) W L = false) : cutOk W L ps j = false := by unfold cutOk; rw [h]; rfl
theorem vReel_rng {W L : Int} {ds : List (List Int)} (h : vReel W L ds = true) : 1 ≤ W ∧ W ≤ 60 ∧ 1 ≤ L ∧ L ≤ 400 := by have := vReel_iff.1 h; omega

end Go.Proofs.Yteckjiaaikdghaa

namespace Go.Proofs.Yteckjiaaikdghaa
open Go.RowKit
attribute [local go_sem ↓] Go.wp_at_zero Go.wp_at_succ

theorem spB_pv {W L : Int} {ds ps : List (List Int)} {k : Nat} (h : vReel W L ds = true) : spB (gi (gr ps k) 0) (gi (gr ps k) 1) (gi (gr ps k) 2) (gi (gr ps k) 3) W L = pv (gr ps k) W L := by
  obtain ⟨a, b, c, d⟩ := vReel_rng h
  rw [spB_ins a b c d]; rfl
end Go.Proofs.Yteckjiaaikdghaa

namespace Go.Proofs.Yteckjiaaikdghaa
open Go.RowKit
attribute [local go_sem ↓] Go.wp_at_zero Go.wp_at_succ

end Go.Proofs.Yteckjiaaikdghaa

namespace Go.Proofs.Yteckjiaaikdghaa
open Go.RowKit
attribute [local go_sem ↓] Go.wp_at_zero Go.wp_at_succ

/-- the numbers below n for which P holds, ascending -/
def selL (P : Nat → Bool) (n : Nat) : List Int := ((List.range n).filter P).map fun (i : Nat) => (i : Int)
theorem selL_succ {P : Nat → Bool} {n : Nat} : selL P (n + 1) = if P n = true then selL P n ++ [(n : Int)] else selL P n := by
  unfold selL
  rw [List.range_succ, List.filter_append, List.map_append]
  by_cases h : P n = true
  · rw [if_pos h]; simp [h]
  · rw [if_neg h]; simp [h]
theorem selL_len (P : Nat → Bool) (n : Nat) : (selL P n).length ≤ n := by
  unfold selL; rw [List.length_map]; exact Nat.le_trans (List.length_filter_le _ _) (by simp)
theorem selL_mem {P : Nat → Bool} {n : Nat} {x : Int} : x ∈ selL P n ↔ ∃ i : Nat, i < n ∧ P i = true ∧ x = (i : Int) := by
  unfold selL
  simp only [List.mem_map, List.mem_filter, List.mem_range]
  constructor
  · rintro ⟨i, ⟨a, b⟩, rfl⟩; exact ⟨i, a, b, rfl⟩
  · rintro ⟨i, a, b, rfl⟩; exact ⟨i, ⟨a, b⟩, rfl⟩
theorem selL_congr {P Q : Nat → Bool} {n : Nat} (h : ∀ i, i < n → P i = Q i) : selL P n = selL Q n := by
  unfold selL
  rw [List.filter_congr fun i hi => h i (List.mem_range.1 hi)]
def rwL (W L : Int) (ds ps : List (List Int)) (k : Int) : List Int := if vCuts W L ds ps = true ∧ 0 ≤ k ∧ k < ds.length then selL (fun i => mT (gr ps i) (gr ds k.toNat)) ps.length else []
def brL (W L : Int) (ds ps : List (List Int)) (m : Int) : List Int := if vCuts W L ds ps = true then selL (fun i => decide (m < worstL ds (gr ps i))) ps.length else []
theorem rwL_len (W L : Int) (ds ps : List (List Int)) (k : Int) (h : ps.length ≤ 1048576) : (rwL W L ds ps k).length ≤ 1048576 := by
  unfold rwL
  split
  · exact Nat.le_trans (selL_len _ _) h
  · simp
theorem brL_len (W L : Int) (ds ps : List (List Int)) (k : Int) (h : ps.length ≤ 1048576) : (brL W L ds ps k).length ≤ 1048576 := by
  unfold brL
  split
  · exact Nat.le_trans (selL_len _ _) h
  · simp
theorem keepC {B : Nat} {W w1 : World} {a : Addr} {v : Value} (hb : Below B W w1) (ha : a.block < B) (h : W.cell? a = some v) : w1.cell? a = some v := (hb.cell ha).trans h
theorem Grew.belowT {base : Nat} {v v' : Value} {a w w' : World} (h : Grew base v v' w w') (hb : Below base a w) : Below base a w' := hb.trans h.below

end Go.Proofs.Yteckjiaaikdghaa

namespace Go.Proofs.Yteckjiaaikdghaa
open Go.RowKit
attribute [local go_sem ↓] Go.wp_at_zero Go.wp_at_succ

theorem keepF {B : Nat} {W w1 : World} {a : Addr} (hb : Below B W w1) (ha : a.block < B) (h : W.frozen? a = false) : w1.frozen? a = false := (hb.frozen ha).trans h
/-- a call that writes into the block of u alone (and into new ones) -/
theorem keepD {w w' : World} {u : Value} (hk : ∀ b, b < w.heap.size → some b ≠ u.ownBlock → w'.heap[b]? = w.heap[b]?) {a : Addr} {v : Value} (ha : a.block < w.heap.size) (hne : u.ownBlock = some a.block → False) (h : w.cell? a = some v) : w'.cell? a = some v :=
  (World.cell?_of_block (hk a.block ha fun e => hne e.symm)).trans h
theorem OwnI.apart {w w' : World} {base e : Nat} {u v : Value} {xs : List Int} (h : OwnI w base e v xs) (hk : ∀ b, b < w.heap.size → some b ≠ u.ownBlock → w'.heap[b]? = w.heap[b]?) (hne : ∀ g, v.ownBlock = some g → u.ownBlock = some g → False) : OwnI w' base e v xs :=
  h.keptBlock fun g hg => hk g (h.lt g hg).2 fun e => hne g hg e.symm
theorem OwnT.apart {w w' : World} {base e k : Nat} {u v : Value} {xs : List (List Int)} (h : OwnT w base e k v xs) (hk : ∀ b, b < w.heap.size → some b ≠ u.ownBlock → w'.heap[b]? = w.heap[b]?) (hne : ∀ g, v.ownBlock = some g → u.ownBlock = some g → False) : OwnT w' base e k v xs :=
  h.keptBlock fun g hg => hk g (h.lt g hg).2 fun e => hne g hg e.symm
theorem OwnT.setBelow {w : World} {base e k : Nat} {v : Value} {xs : List (List Int)} (h : OwnT w base e k v xs) {p : Addr} (hp : p.block < base) (u : Value) : OwnT (w.setCell p u) base e k v xs :=
  h.keptBlock fun g hg => by
    have := (h.lt g hg).1
    simp only [World.setCell, Array.getElem?_modify, if_neg (show ¬ p.block = g by omega)]
end Go.Proofs.Yteckjiaaikdghaa
