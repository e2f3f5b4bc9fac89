/-
  Lemmas and contracts of single functions of this program, used by the proofs of its laws: what each call returns and what becomes of memory. Conditions: the hypotheses of each theorem.
-/
import Derived.Test.YteckjiaaikdghaaRdr
import Derived.Test.YteckjiaaikdghaaRegLast
import Derived.Test.YteckjiaaikdghaaMReel
import Derived.Test.YteckjiaaikdghaaLitI
import Derived.Deep.AppendLies
namespace Go.Proofs.Yteckjiaaikdghaa
open Go.RowKit
attribute [local go_sem ↓] Go.wp_at_zero Go.wp_at_succ

theorem grown_trans {a b c : World} {row : Option Nat} (h : a.grownBy b row) (k : b.grownBy c row) : a.grownBy c row :=
  ⟨k.os.trans h.os, k.tape.trans h.tape, k.output.trans h.output, Nat.le_trans h.size k.size, fun i hi hn => (k.block i (Nat.lt_of_lt_of_le hi h.size) hn).trans (h.block i hi hn)⟩
theorem grown_only {a b : World} {g : Nat} (h : Only g (g + 1) a b) : a.grownBy b (some g) :=
  ⟨h.os, h.tape, h.output, by rw [h.size]; exact Nat.le_refl _, fun k _ hn => h.block k (by have : k ≠ g := fun e => hn (by rw [e]); omega)⟩
theorem grown_below {a b : World} (h : Below a.heap.size a b) (row : Option Nat) : a.grownBy b row :=
  ⟨h.os, h.tape, h.output, h.size, fun k hk _ => h.block k hk⟩
theorem grown_qt {a b : World} (h : Qt a b) (row : Option Nat) : a.grownBy b row := grown_below (h.below _) row
theorem Kept.of_grown {a b : World} {g lo hi : Nat} (h : a.grownBy b (some g)) (hh : hi ≤ a.heap.size) (hg : g < lo ∨ hi ≤ g) : Kept lo hi a b :=
  fun k h1 h2 => h.block k (by omega) (fun e => by injection e with e; omega)
theorem below_of_grown {a b : World} {g B : Nat} (h : a.grownBy b (some g)) (hB : B ≤ g) (hs : B ≤ a.heap.size) : Below B a b :=
  ⟨h.os, h.tape, h.output, h.size, fun k hk => h.block k (by omega) (fun e => by injection e with e; omega)⟩
theorem grown_setCell {a w : World} {g : Nat} (h : a.grownBy w (some g)) {p : Addr} (hp : a.heap.size ≤ p.block) (u : Value) : a.grownBy (w.setCell p u) (some g) :=
  ⟨h.os, h.tape, h.output, by simp only [World.setCell, Array.size_modify]; exact h.size, fun i hi hne => (Below.heap_setCell w p u i (by omega)).trans (h.block i hi hne)⟩
theorem keepO {g : Nat} {W w1 : World} {a : Addr} {v : Value} (h : Only g (g + 1) W w1) (hne : ¬ a.block = g) (hc : W.cell? a = some v) : w1.cell? a = some v :=
  (World.cell?_of_block (h.block a.block (by omega))).trans hc
theorem keepOF {g : Nat} {W w1 : World} {a : Addr} (h : Only g (g + 1) W w1) (hne : ¬ a.block = g) (hc : W.frozen? a = false) : w1.frozen? a = false :=
  (World.frozen?_of_block (h.block a.block (by omega))).trans hc
theorem keepW {g : Nat} {W w1 : World} {a : Addr} {v : Value} (h : W.grownBy w1 (some g)) (hne : a.block < W.heap.size ∧ ¬ a.block = g) (hc : W.cell? a = some v) : w1.cell? a = some v :=
  (World.cell?_of_block (h.block a.block hne.1 fun e => by injection e with e; exact hne.2 e)).trans hc
theorem keepWF {g : Nat} {W w1 : World} {a : Addr} (h : W.grownBy w1 (some g)) (hne : a.block < W.heap.size ∧ ¬ a.block = g) (hc : W.frozen? a = false) : w1.frozen? a = false :=
  (World.frozen?_of_block (h.block a.block hne.1 fun e => by injection e with e; exact hne.2 e)).trans hc
theorem Rdr.drew {w : World} {B k g : Nat} {v : Value} (h : Rdr w B k g v) : Rdr w.drew B k g v := h.kept rfl fun _ _ _ => rfl
theorem Rdr.set {w : World} {B k g : Nat} {v : Value} (h : Rdr w B k g v) {p : Addr} (hp : B ≤ p.block ∧ ¬ p.block = g) (u : Value) : Rdr (w.setCell p u) B k g v :=
  h.kept (Below.heap_setCell _ _ _ _ (by omega)) fun j _ hj => Below.heap_setCell _ _ _ _ (by omega)
theorem only_drew {lo hi : Nat} {w x : World} (h : Only lo hi w.drew x) : Only lo hi w x := ⟨h.os, h.tape, h.output, h.size, h.block⟩
theorem PickOk.rng {n r m : Int} (h : PickOk n r) (hn : n ≤ m) (hm : 1 ≤ m) : 0 ≤ r ∧ r < m := by
  unfold PickOk at h; omega
/-- 'append(v, t)' of tuples, at a step of a region that draws -/
theorem step_appendT {P : Program} {t e : TypeId} {z : Value} {k bytes : Nat} (S : SlT P t e z k bytes) {ops : Array Oper} {o : Oper} {a : Act} {K : Act → World → Prop} {Q : Exit → Act → World → Prop} {E : Prop} (w : World) (hgd : o.guard = none) (s x : Operand)
    (ho : o.op = .call { callee := .builtin .append, args := #[s, x], argTypes := #[t, t] }) (y : List Int) (cs : Array Value) (hcs : cs = (y.map (Value.int .i64)).toArray)
    (base : Nat) (v : Value) (xss : List (List Int)) (hs : a.eval s = v) (hx : a.eval x = .slice (some ⟨w.heap.size, 0, none⟩) 1 1) (hown : OwnT w base e k v xss) (hy : y.length = k ∧ ∀ n ∈ y, I64 n)
    (hn : (xss.length + 1) * bytes ≤ 140737488355328) (hn2 : xss.length ≤ 1099511627776) (hb : base ≤ w.heap.size)
    (h : ∀ v' w', OwnT w' base e k v' (xss ++ [y]) → Grew base v v' w w' → K (a.put o.dst v') w') :
    if Region.wanted o (yielded ops a.tmps) = true then Oper.wp P o a (w.alloc (.cells cs e)) K Q else E := by
  subst hcs
  obtain ⟨i, hi, hz1, hz2, hz3⟩ := info_parts S.hi
  refine step_append_lies (w.alloc _) hgd s x t ho base e i z k bytes S.ht hi hz1 hz2 hz3 S.hz S.hs v xss.length (flatT xss) hs (hown.1.alloc _) ⟨w.heap.size, 0, none⟩ 1 1 (y.map (Value.int .i64)) hx (by simp [hy.1])
    (fun j u hu => by have := cells_at_new (w := w) (e := e) (cs := (y.map (Value.int .i64)).toArray) (j := j) (u := u) (by simpa using hu); exact this) (by
      intro u hu
      simp only [List.mem_map] at hu
      obtain ⟨n, _, rfl⟩ := hu
      rfl) (by omega) (by unfold maxLen; omega) hn (by simp; omega) _ rfl fun g cap w' k1 k2 _ _ => h _ w' ⟨?_, ?_⟩ ⟨?_, ?_, ?_⟩
  · rw [List.length_append, flatT_append, flatT_one]
    simpa using k1
  · intro r hr
    rcases List.mem_append.1 hr with hr | hr
    · exact hown.2 r hr
    · rw [List.mem_singleton.1 hr]; exact hy
  · exact ((Below.refl base w).alloc hb _).grown k2 (by simp; omega) fun j hj => (hown.lt j hj).1
  · have := k2.size; simp at this; omega
  · intro j hj hne
    rw [k2.block j (by simp; omega) hne]
    exact Below.heap_alloc w _ j hj

end Go.Proofs.Yteckjiaaikdghaa
