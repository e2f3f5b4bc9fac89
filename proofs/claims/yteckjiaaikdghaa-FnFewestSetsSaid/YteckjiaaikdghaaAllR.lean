/-
  Lemmas and contracts of single functions of this program, used by the proofs of its laws: what each call returns and what becomes of memory. Conditions: the hypotheses of each theorem.
-/
import Derived.Test.YteckjiaaikdghaaGroR
import Derived.Laws.EntriesVeiled
namespace Go.Proofs.Yteckjiaaikdghaa
open Go.RowKit
attribute [local go_sem ↓] Go.wp_at_zero Go.wp_at_succ

/-- 'make([]int, 0, n)' -/
theorem wpList_make0 {P : Program} {t e : TypeId} (S : SlT P t e (.int .i64 0) 1 8) {ops : Array Oper} {rest : List Oper} {o : Oper} {a : Act} {Q : Exit → Act → World → Prop} (w : World) (hgd : o.guard = none) (l c : Operand)
    (ho : o.op = Op.makeSlice t l c) (base n : Nat) (hl : a.eval l = .int .i64 0) (hc : a.eval c = .int .i64 (n : Int)) (hn : n ≤ 1099511627776) (hb : base ≤ w.heap.size)
    (h : ∀ w', OwnI w' base e (.slice (some ⟨w.heap.size, 0, none⟩) 0 n) [] → Below w.heap.size w w' → w.heap.size < w'.heap.size → w'.heap.size = w.heap.size + 1 ∨ True → wpList P ops Q rest (a.put o.dst (.slice (some ⟨w.heap.size, 0, none⟩) 0 n)) w') :
    wpList P ops Q (o :: rest) a w := by
  obtain ⟨i, hi, hz1, hz2, hz3⟩ := info_parts S.hi
  exact wpList_make_own w hgd l c t ho base e i _ 1 S.ht hi hz1 hz2 .i64 .i64 _ n hl hc rfl (by rw [hz3]; omega) (by unfold maxLen; omega) hb fun w' k1 k2 =>
    h w' ⟨k1, by simp⟩ ((Below.refl _ _).grown k2 (Nat.le_refl _) fun k hk => by cases hk) (k1.lt _ rfl).2 (.inr trivial)
set_option maxRecDepth 100000 in
set_option maxHeartbeats 2000000 in
theorem allOrders_any (n : Nat) (hn : n ≤ 5) (w : World) :
    Calls Try.prog 50 #[.int .i64 n] w fun e w' => ∃ v', e = .returned v' ∧ OwnR w' w.heap.size w'.heap.size 22 3 v' (allO n n []) ∧ Below w.heap.size w w' := by
  have hmf : ∀ (fn : Fn) (first cap : Array Value) (w : World), (Instr.makeFunc fn first cap).run Try.prog w = .ok (.func fn first cap) w := fun _ _ _ _ => rfl
  obtain ⟨h, hh⟩ : ∃ h, h = w.heap.size := ⟨_, rfl⟩
  go_enter Try.func50, Try.ntmps50
  go_wp2_with (at_make; refine wpList_make0 SlI _ rfl _ _ rfl (h + 2) n rfl rfl (by omega) (by simp; omega) ?_; intro w3 ho3 hb3 hs3 _; have hc5 : ∀ X, ((w3.alloc X).alloc (.cells #[.nilFunc] 1)).cell? ⟨w3.heap.size + 1, 0, none⟩ = some .nilFunc := fun X => (by go_simp); have hf5 : ∀ X, ((w3.alloc X).alloc (.cells #[.nilFunc] 1)).frozen? ⟨w3.heap.size + 1, 0, none⟩ = false := fun X => (by go_simp))
  have cN : w3.cell? ⟨w.heap.size, 0, none⟩ = some (.int .i64 (n : Int)) := (hb3.cell (by simp; omega)).trans (by go_simp)
  have cS : w3.cell? ⟨w.heap.size + 1, 0, none⟩ = some (.slice none 0 0) := (hb3.cell (by simp)).trans (by go_simp)
  have fS : w3.frozen? ⟨w.heap.size + 1, 0, none⟩ = false := (hb3.frozen (by simp)).trans (by go_simp)
  have hz3 : w.heap.size + 3 ≤ w3.heap.size := by simp at hs3; omega
  have hp : ∀ X Y, Below w3.heap.size w3 ((w3.alloc X).alloc Y) := fun X Y => ((Below.refl _ _).alloc (Nat.le_refl _) _).alloc (by simp) _
  have hs2 : ((w.alloc (.cells #[.int .i64 (n : Int)] 3)).alloc (.cells #[.slice none 0 0] 27)).heap.size = w.heap.size + 2 := by simp
  rw [hs2] at ho3
  have HG : GrS ((w3.alloc (.cells #[.slice (some ⟨w.heap.size + 1 + 1, 0, none⟩) 0 n] 22)).alloc (.cells #[.func (.func 93) #[] #[.pointer (some ⟨w3.heap.size, 0, none⟩), .pointer (some ⟨w.heap.size, 0, none⟩), .pointer (some ⟨w.heap.size + 1, 0, none⟩), .pointer (some ⟨w3.heap.size + 1, 0, none⟩)]] 1)) 22 3 93 w.heap.size w3.heap.size n [] [] := by
    refine ⟨hz3, by simp, ((hp _ _).cell (by show w.heap.size < _; omega)).trans cN, by go_simp, by go_simp, by go_simp, ?_, ((hp _ _).frozen (by show w.heap.size + 1 < _; omega)).trans fS, .slice none 0 0, ((hp _ _).cell (by show w.heap.size + 1 < _; omega)).trans cS, OwnR.nil _ _ _ _ _⟩
    rw [hh] at ho3
    exact (ho3.alloc _).alloc _
  have HB := Lib.hid ((((Below.refl w.heap.size w).alloc (Nat.le_refl _) (.cells #[.int .i64 (n : Int)] 3)).alloc (by simp) (.cells #[.slice none 0 0] 27)).trans (hb3.mono (by simp; omega)))
  refine (grow_any w.heap.size w3.heap.size n hn n [] [] _ (by simp) HG (by have := allO_small hn; simp only [List.length_nil]; omega)).mono ?_
  clear HG hp hs2 hc5 hf5 ho3 hb3 hs3 cN cS fS
  rintro e w4 ⟨rfl, hg, hb4⟩
  obtain ⟨_, z4, _, _, _, _, _, _, v4, cS, ho4⟩ := hg
  have Ho4 := Lib.hid ho4
  have HB4 := Lib.hid hb4
  clear ho4 hb4
  go_wp2
  go_ret
  refine ⟨_, rfl, Ho4.out.wide (by omega) (Nat.le_refl _), ?_⟩
  refine HB.out.trans ((((Below.refl w.heap.size w3).alloc (by omega) _).alloc (by simp; omega) _).trans HB4.out)
end Go.Proofs.Yteckjiaaikdghaa
