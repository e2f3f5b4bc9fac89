/-
  Lemmas and contracts of single functions of this program, used by the proofs of its laws: what each call returns and what becomes of memory. Conditions: the hypotheses of each theorem.
-/
import Derived.Test.YtlabekemifccaaaDoorMillA
import Derived.Test.YtlabekemifccaaaDoorMReel
namespace Go.Proofs.YtlabekemifccaaaDoor
open Go.RowKit
attribute [local go_sem ↓] Go.wp_at_zero Go.wp_at_succ

theorem ents_set {es : List Ent} {k : Nat} (h : k < es.length) (z : Ent) : (es.take k ++ (List.replicate es.length z).drop k).set k (ge es k) = es.take (k + 1) ++ (List.replicate es.length z).drop (k + 1) := by
  rw [take_ge h, List.set_append_right _ _ (by rw [List.length_take]; omega), List.length_take, show k - min k es.length = 0 by omega, List.drop_eq_getElem_cons (by rw [List.length_replicate]; exact h), List.set_cons_zero, List.append_assoc]
  rfl
theorem ents_len {es : List Ent} {k : Nat} (h : k ≤ es.length) (z : Ent) : (es.take k ++ (List.replicate es.length z).drop k).length = es.length := by
  rw [List.length_append, List.length_take, List.length_drop, List.length_replicate]; omega
theorem SlEntry : SlT Tryd.prog 50 102 (.agg #[.int .i64 0, .int .i64 0, .int .i64 0, .slice none 0 0, .slice none 0 0]) 5 72 := ⟨Tryd.underlying50, by kernel_rfl, rfl, by omega⟩
theorem wpList_makeE (tD tP : Nat) {P : Program} {t e : TypeId} (S : SlT P t e (.agg #[.int .i64 0, .int .i64 0, .int .i64 0, .slice none 0 0, .slice none 0 0]) 5 72) {ops : Array Oper} {rest : List Oper} {o : Oper} {a : Act} {Q : Exit → Act → World → Prop} (w : World) (hgd : o.guard = none) (l c : Operand)
    (ho : o.op = Op.makeSlice t l c) (base n : Nat) (hl : a.eval l = .int .i64 (n : Int)) (hc : a.eval c = .int .i64 (n : Int)) (hn : n ≤ 1099511627776) (hb : base ≤ w.heap.size)
    (h : ∀ w', OwnE w' base w'.heap.size e tD tP (.slice (some ⟨w.heap.size, 0, none⟩) n n) (List.replicate n Ent.nil) → Below w.heap.size w w' → w.heap.size < w'.heap.size → wpList P ops Q rest (a.put o.dst (.slice (some ⟨w.heap.size, 0, none⟩) n n)) w') :
    wpList P ops Q (o :: rest) a w := by
  obtain ⟨i, hi, hz1, hz2, hz3⟩ := info_parts S.hi
  exact wpList_make_full w hgd l c t ho base e i _ 5 S.ht hi hz1 hz2 .i64 .i64 _ _ n hl hc rfl rfl (by rw [hz3]; omega) (by unfold maxLen; omega) hb fun w' k1 k2 =>
    h w' (OwnE.made k1) ((Below.refl _ _).grown k2 (Nat.le_refl _) fun k hk => by cases hk) (k1.lt _ rfl).2
end Go.Proofs.YtlabekemifccaaaDoor
