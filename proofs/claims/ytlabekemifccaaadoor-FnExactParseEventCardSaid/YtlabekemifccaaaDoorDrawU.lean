/-
  Lemmas and contracts of single functions of this program, used by the proofs of its laws: what each call returns and what becomes of memory. Conditions: the hypotheses of each theorem.
-/
import Derived.Test.YtlabekemifccaaaDoorDrawT
import Derived.Maps.AppendAt
namespace Go.Proofs.YtlabekemifccaaaDoor
open Go.RowKit
attribute [local go_sem ↓] Go.wp_at_zero Go.wp_at_succ

/-- 'append(v, x)' of ints, and in which block the new slice lies -/
theorem wpList_appendI' {P : Program} {t e : TypeId} (S : SlT P t e (.int .i64 0) 1 8) {ops : Array Oper} {rest : List Oper} {o : Oper} {a : Act} {Q : Exit → Act → World → Prop} (w : World) (hgd : o.guard = none) (s x : Operand)
    (ho : o.op = .call { callee := .builtin .append, args := #[s, x], argTypes := #[t, t] }) (y : Int)
    (base : Nat) (v : Value) (xs : List Int) (hs : a.eval s = v) (hx : a.eval x = .slice (some ⟨w.heap.size, 0, none⟩) 1 1) (hown : OwnI w base e v xs) (hy : I64 y)
    (hn : xs.length ≤ 1099511627776) (hb : base ≤ w.heap.size)
    (h : ∀ v' w', OwnI w' base e v' (xs ++ [y]) → Grew base v v' w w' → (v'.ownBlock = v.ownBlock ∨ v'.ownBlock = some (w.heap.size + 1)) → wpList P ops Q rest (a.put o.dst v') w') :
    wpList P ops Q (o :: rest) a (w.alloc (.cells #[.int .i64 y] e)) := by
  obtain ⟨i, hi, hz1, hz2, hz3⟩ := info_parts S.hi
  refine wpList_append_own_at (w := w.alloc (.cells #[.int .i64 y] e)) hgd s x t ho base e i (.int .i64 0) 1 8 S.ht hi hz1 hz2 hz3 S.hz S.hs v xs.length (xs.map (.int .i64)) hs (hown.1.alloc _) ⟨w.heap.size, 0, none⟩ 1 1 [.int .i64 y] hx (by simp)
    (fun j u hu => by have := cells_at_new (w := w) (e := e) (cs := #[Value.int .i64 y]) (j := j) (u := u) (by simpa using hu); exact this) (by simp [Value.oneCell']) (by unfold maxLen; omega) (by omega) (by simp; omega) fun v' w' k1 k2 _ k4 => h v' w' ⟨?_, ?_⟩ ⟨?_, ?_, ?_⟩ (by simpa using k4)
  · simpa using k1
  · intro z hz
    rcases List.mem_append.1 hz with hz | hz
    · exact hown.2 z hz
    · rw [List.mem_singleton.1 hz]; exact hy
  · exact ((Below.refl base w).alloc hb _).grown k2 (by simp; omega) fun k hk => (hown.lt k hk).1
  · have := k2.size; simp at this; omega
  · intro k hk hne
    rw [k2.block k (by simp; omega) hne]
    exact Below.heap_alloc w _ k hk
theorem OwnI.grown {w w' : World} {base e g : Nat} {v : Value} {xs : List Int} (h : OwnI w base e v xs) (hg : w.grownBy w' (some g)) (hlt : g < base) : OwnI w' base e v xs :=
  h.kept (Kept.of_grown hg (Nat.le_refl _) (.inl hlt))
theorem OwnI.grew {w w' : World} {base b2 e : Nat} {u u' v : Value} {xs : List Int} (h : OwnI w base e v xs) (hg : Grew b2 u u' w w') (hne : ∀ g, v.ownBlock = some g → u.ownBlock = some g → False) : OwnI w' base e v xs :=
  h.keptBlock fun g hgv => hg.other g (h.lt g hgv).2 fun e => hne g hgv e.symm
theorem OwnT.grew {w w' : World} {base b2 e k : Nat} {u u' v : Value} {xs : List (List Int)} (h : OwnT w base e k v xs) (hg : Grew b2 u u' w w') (hne : ∀ g, v.ownBlock = some g → u.ownBlock = some g → False) : OwnT w' base e k v xs :=
  h.keptBlock fun g hgv => hg.other g (h.lt g hgv).2 fun e => hne g hgv e.symm
theorem Bytes.wide {w : World} {lo hi lo' hi' : Nat} {v : Value} {xs : List Int} (h : Bytes w lo hi v xs) (hl : lo' ≤ lo) (hh : hi ≤ hi') : Bytes w lo' hi' v xs := by
  obtain ⟨A, c, h1, h2, h3, h4, h5⟩ := h
  exact ⟨A, c, h1, h2, h3, h4.wide hl hh, h5⟩
theorem grown_drew {w x : World} {r : Option Nat} (h : w.drew.grownBy x r) : w.grownBy x r := ⟨h.os, h.tape, h.output, h.size, h.block⟩
theorem i64_4 {a b c d : Int} (ha : I64 a) (hb : I64 b) (hc : I64 c) (hd : I64 d) : ∀ n ∈ [a, b, c, d], I64 n := fun n hn => by
  simp only [List.mem_cons, List.not_mem_nil, or_false] at hn
  rcases hn with rfl | rfl | rfl | rfl <;> assumption
theorem OwnI.setB {w : World} {base e : Nat} {v : Value} {xs : List Int} (h : OwnI w base e v xs) {p : Addr} (hp : p.block < base) (u : Value) : OwnI (w.setCell p u) base e v xs :=
  h.keptBlock fun g hg => by
    have := (h.lt g hg).1
    simp only [World.setCell, Array.getElem?_modify, if_neg (show ¬ p.block = g by omega)]
theorem max_one {W : Int} (h0 : 0 ≤ W) (h1 : W ≤ 1000) : 1 ≤ max W 1 ∧ max W 1 ≤ 1000 := by omega

end Go.Proofs.YtlabekemifccaaaDoor
