/-
  Lemmas and contracts of single functions of this program, used by the proofs of its laws: what each call returns and what becomes of memory. Conditions: the hypotheses of each theorem.
-/
import Derived.Test.YteckjiaaikdghaaReelC
namespace Go.Proofs.Yteckjiaaikdghaa
open Go.RowKit

theorem made_all {z : Array Value} {c : Value} {n : Nat} (h : ∀ j, z[j % z.size]! = c) : (madeCells z n).toList = List.replicate n c := by
  apply List.ext_getElem (by simp [size_madeCells])
  intro j h1 h2
  simp [madeCells, h]
theorem OwnT.made {w : World} {base e k n c : Nat} {A : Option Addr} (h : w.ownsRow base e k (.slice A n c) n (List.replicate (n * k) (.int .i64 0))) : OwnT w base e k (.slice A n c) (List.replicate n (List.replicate k 0)) := by
  refine ⟨?_, fun x hx => ?_⟩
  · have e1 : flatT (List.replicate n (List.replicate k 0)) = List.replicate (n * k) (.int .i64 0) := by
      unfold flatT; rw [List.flatten_replicate_replicate, List.map_replicate]
    rw [List.length_replicate, e1]; exact h
  · rw [(List.mem_replicate.1 hx).2]
    exact ⟨List.length_replicate, fun y hy => by rw [(List.mem_replicate.1 hy).2]; exact ⟨by omega, by omega⟩⟩
theorem wpList_makeT {P : Program} {t e : TypeId} {z : Value} {k bytes : Nat} (S : SlT P t e z k bytes) (hz : ∀ j, z.cells[j % z.cells.size]! = .int .i64 0) (hby : bytes ≤ 100) {ops : Array Oper} {rest : List Oper} {o : Oper} {a : Act} {Q : Exit → Act → World → Prop} (w : World) (hgd : o.guard = none) (l c : Operand)
    (ho : o.op = Op.makeSlice t l c) (base n : Nat) (hl : a.eval l = .int .i64 (n : Int)) (hc : a.eval c = .int .i64 (n : Int)) (hn : n ≤ 1099511627776) (hb : base ≤ w.heap.size)
    (h : ∀ w', OwnT w' base e k (.slice (some ⟨w.heap.size, 0, none⟩) n n) (List.replicate n (List.replicate k 0)) → Below w.heap.size w w' → w.heap.size < w'.heap.size → wpList P ops Q rest (a.put o.dst (.slice (some ⟨w.heap.size, 0, none⟩) n n)) w') :
    wpList P ops Q (o :: rest) a w := by
  obtain ⟨i, hi, hz1, hz2, hz3⟩ := info_parts S.hi
  have hby2 : bytes * n ≤ 100 * 1099511627776 := Nat.mul_le_mul hby hn
  refine wpList_make_full w hgd l c t ho base e i _ k S.ht hi hz1 hz2 .i64 .i64 _ _ n hl hc rfl rfl (by rw [hz3]; omega) (by unfold maxLen; omega) hb fun w' k1 k2 => ?_
  have hlt := (k1.lt _ rfl).2
  rw [made_all hz] at k1
  exact h w' (OwnT.made k1) ((Below.refl _ _).grown k2 (Nat.le_refl _) fun k hk => by cases hk) hlt
theorem OwnT.at' {w : World} {base e k n c g : Nat} {xss : List (List Int)} (h : OwnT w base e k (.slice (some ⟨g, 0, none⟩) n c) xss) {i : Nat} (hi : i < xss.length) (h0 : 0 < k) :
    base ≤ g ∧ g < w.heap.size ∧ (∀ j, j < k → w.cell? ⟨g, i * k + j, none⟩ = some (.int .i64 (gi (gr xss i) j))) ∧ (∀ j, w.frozen? ⟨g, i * k + j, none⟩ = false) := by
  obtain ⟨g', e1, a, b, c1, d, _⟩ := h.at_ hi h0
  injection e1 with e2
  injection e2 with e3
  subst e3
  exact ⟨a, b, c1, d⟩
theorem rep_set {k : Nat} {r : List Int} (xs : List (List Int)) (i : Nat) (hi : i < xs.length) (hr : gr xs i = r) : (xs.take i ++ (List.replicate xs.length (List.replicate k 0)).drop i).set i r = xs.take (i + 1) ++ (List.replicate xs.length (List.replicate k 0)).drop (i + 1) := by
  subst hr
  have hm : i < (List.replicate xs.length (List.replicate k (0 : Int))).length := by rw [List.length_replicate]; exact hi
  rw [take_gr hi, List.set_append_right _ _ (by rw [List.length_take]; omega), List.length_take, Nat.min_eq_left (by omega), Nat.sub_self, drop_gr hm, List.set_cons_zero, List.append_assoc]; rfl

end Go.Proofs.Yteckjiaaikdghaa
