/-
  Lemmas and contracts of single functions of this program, used by the proofs of its laws: what each call returns and what becomes of memory. Conditions: the hypotheses of each theorem.
-/
import Derived.Test.YtkgepklapglmdaaMillO
import Derived.Maps.AppendAt
namespace Go.Proofs.Ytkgepklapglmdaa
open Go.RowKit

/-- 'append(v, u...)' at an operation half run: whatever the source's address; and in which block the new slice lies -/
theorem wp_append_many' {P : Program} {t e : TypeId} {z : Value} {size bytes : Nat} (S : SlT P t e z size bytes) {o : Oper} {a : Act} {K : Act → World → Prop} {Q : Exit → Act → World → Prop} (w : World) (s x : Operand)
    (ho : o.op = .call { callee := .builtin .append, args := #[s, x], argTypes := #[t, t] }) (lo hi : Nat) (A : Option Addr) (m c : Nat)
    (base : Nat) (v : Value) (n : Nat) (xs ys : List Value) (hs : a.eval s = v) (hx : a.eval x = .slice A m c) (hown : w.ownsRow base e size v n xs) (hsrc : Rd w lo hi size A m ys) (h1 : ∀ u ∈ ys, u.oneCell' = true)
    (hn : (n + m) * bytes ≤ 140737488355328) (hn2 : n + m ≤ 140737488355328) (hb : base ≤ w.heap.size)
    (h : ∀ v' w', w'.ownsRow base e size v' (n + m) (xs ++ ys) → w.grownBy w' v.ownBlock → Below base w w' → (v'.ownBlock = v.ownBlock ∨ v'.ownBlock = some w.heap.size) → K (a.put o.dst v') w') :
    Oper.wp P o a w K Q := by
  obtain ⟨i, hi', hz1, hz2, hz3⟩ := info_parts S.hi
  have fin : ∀ v' w', (Builtin.append_ #[t, t] o.type #[v, .slice A m c]).run P w = .ok v' w' → K (a.put o.dst v') w' → Oper.wp P o a w K Q := fun v' w' hr hk => by
    unfold Oper.wp execOp
    simp only [ho, resolve, invoke, builtin, Sem.run_bind, Sem.run_pure, Result.andThen_ok, List.map_toArray, List.map_cons, List.map_nil, hs, hx, hr]
    exact hk
  rcases Nat.eq_zero_or_pos m with h0 | h0
  · subst h0
    have hy : ys = [] := List.eq_nil_of_length_eq_zero (by simpa using hsrc.1)
    subst hy
    rcases A with _ | ad
    · exact fin v w (run_append_of_nil (P := P) w base t o.type e i size S.ht hi' v n xs hown c) (h v w (by simpa using hown) (World.grownBy.refl w _) (Below.refl _ _) (.inl rfl))
    · obtain ⟨v', w', hr, k1, k2, _, k4⟩ := run_append_own_at (P := P) w base t o.type e i z size bytes S.ht hi' hz1 hz2 hz3 S.hz S.hs v n xs hown ad 0 c [] (by simp) (fun j u hu => by simp at hu) h1 (by unfold maxLen; omega) hn hb
      exact fin v' w' hr (h v' w' k1 k2 ((Below.refl base w).grown k2 hb fun k hk => (hown.lt k hk).1) k4)
  · obtain ⟨b, o', rfl, _, _, hc⟩ := hsrc.2 h0
    obtain ⟨v', w', hr, k1, k2, _, k4⟩ := run_append_own_at (P := P) w base t o.type e i z size bytes S.ht hi' hz1 hz2 hz3 S.hz S.hs v n xs hown ⟨b, o', none⟩ m c ys hsrc.1 (fun j u hu => by
        have := hc j u hu
        have hadd : (⟨b, o', none⟩ : Addr).add j = ⟨b, o' + j, none⟩ := by unfold Addr.add; split <;> simp_all
        rw [hadd]; exact this) h1 (by unfold maxLen; omega) hn hb
    exact fin v' w' hr (h v' w' k1 k2 ((Below.refl base w).grown k2 hb fun k hk => (hown.lt k hk).1) k4)
/-- 'append(v, x)': x lies in the block that has just been laid -/
theorem wp_append1' {P : Program} {t e : TypeId} {z : Value} {size bytes : Nat} (S : SlT P t e z size bytes) {o : Oper} {a : Act} {K : Act → World → Prop} {Q : Exit → Act → World → Prop} (w : World) (s x : Operand)
    (ho : o.op = .call { callee := .builtin .append, args := #[s, x], argTypes := #[t, t] }) (cs : Array Value)
    (base : Nat) (v : Value) (n : Nat) (xs : List Value) (hs : a.eval s = v) (hx : a.eval x = .slice (some ⟨w.heap.size, 0, none⟩) 1 1) (hown : w.ownsRow base e size v n xs)
    (hcs : cs.size = size) (h1 : ∀ u ∈ cs.toList, u.oneCell' = true) (hn : (n + 1) * bytes ≤ 140737488355328) (hn2 : n + 1 ≤ 140737488355328) (hb : base ≤ w.heap.size)
    (h : ∀ v' w', w'.ownsRow base e size v' (n + 1) (xs ++ cs.toList) → Below base w w' → w.heap.size + 1 ≤ w'.heap.size → (∀ k, k < w.heap.size → some k ≠ v.ownBlock → w'.heap[k]? = w.heap[k]?) → (v'.ownBlock = v.ownBlock ∨ v'.ownBlock = some (w.heap.size + 1)) → K (a.put o.dst v') w') :
    Oper.wp P o a (w.alloc (.cells cs e)) K Q := by
  refine wp_append_many' S (w.alloc (.cells cs e)) s x ho w.heap.size (w.heap.size + 1) (some ⟨w.heap.size, 0, none⟩) 1 1 base v n xs cs.toList hs hx (hown.alloc _) ⟨by simp [hcs], fun _ => ⟨w.heap.size, 0, rfl, Nat.le_refl _, Nat.lt_succ_self _, fun j u hu => by
    have := cells_at_new (w := w) (e := e) hu
    have hadd : (⟨w.heap.size, 0, none⟩ : Addr).add j = ⟨w.heap.size, 0 + j, none⟩ := by unfold Addr.add; split <;> simp_all
    rw [hadd] at this; exact this⟩⟩ h1 hn hn2 (by simp; omega) fun v' w' k1 k2 k3 k4 => h v' w' k1 (((Below.refl base w).alloc hb _).trans k3) (by have := k2.size; simpa using this) (fun k hk hne => ?_) (by simpa using k4)
  rw [k2.block k (by simp; omega) hne]
  exact Below.heap_alloc w _ k hk
/-- 'append(v, t)' of tuples, at an operation half run; and in which block the new slice lies -/
theorem wp_appendT' {P : Program} {t e : TypeId} {z : Value} {k bytes : Nat} (S : SlT P t e z k bytes) {o : Oper} {a : Act} {K : Act → World → Prop} {Q : Exit → Act → World → Prop} (w : World) (s x : Operand)
    (ho : o.op = .call { callee := .builtin .append, args := #[s, x], argTypes := #[t, t] }) (y : List Int) (cs : Array Value) (hcs : cs = (y.map (Value.int .i64)).toArray)
    (base : Nat) (v : Value) (xss : List (List Int)) (hs : a.eval s = v) (hx : a.eval x = .slice (some ⟨w.heap.size, 0, none⟩) 1 1) (hown : OwnT w base e k v xss) (hy : y.length = k ∧ ∀ n ∈ y, I64 n)
    (hn : (xss.length + 1) * bytes ≤ 140737488355328) (hn2 : xss.length ≤ 1099511627776) (hb : base ≤ w.heap.size)
    (h : ∀ v' w', OwnT w' base e k v' (xss ++ [y]) → Grew base v v' w w' → (v'.ownBlock = v.ownBlock ∨ v'.ownBlock = some (w.heap.size + 1)) → K (a.put o.dst v') w') :
    Oper.wp P o a (w.alloc (.cells cs e)) K Q := by
  subst hcs
  refine wp_append1' S w s x ho _ base v xss.length (flatT xss) hs hx hown.1 (by simp [hy.1]) (by
    intro u hu
    simp only [List.mem_map] at hu
    obtain ⟨n, _, rfl⟩ := hu
    rfl) hn (by omega) hb fun v' w' k1 k3 k4 ko k5 => h v' w' ⟨?_, ?_⟩ ⟨k3, by omega, ko⟩ k5
  · rw [List.length_append, flatT_append, flatT_one]
    exact k1
  · intro r hr
    rcases List.mem_append.1 hr with hr | hr
    · exact hown.2 r hr
    · rw [List.mem_singleton.1 hr]; exact hy
theorem wpList_appendT' {P : Program} {t e : TypeId} {z : Value} {k bytes : Nat} (S : SlT P t e z k bytes) {ops : Array Oper} {rest : List Oper} {o : Oper} {a : Act} {Q : Exit → Act → World → Prop} (w : World) (hgd : o.guard = none) (s x : Operand)
    (ho : o.op = .call { callee := .builtin .append, args := #[s, x], argTypes := #[t, t] }) (y : List Int) (cs : Array Value) (hcs : cs = (y.map (Value.int .i64)).toArray)
    (base : Nat) (v : Value) (xss : List (List Int)) (hs : a.eval s = v) (hx : a.eval x = .slice (some ⟨w.heap.size, 0, none⟩) 1 1) (hown : OwnT w base e k v xss) (hy : y.length = k ∧ ∀ n ∈ y, I64 n)
    (hn : (xss.length + 1) * bytes ≤ 140737488355328) (hn2 : xss.length ≤ 1099511627776) (hb : base ≤ w.heap.size)
    (h : ∀ v' w', OwnT w' base e k v' (xss ++ [y]) → Grew base v v' w w' → (v'.ownBlock = v.ownBlock ∨ v'.ownBlock = some (w.heap.size + 1)) → wpList P ops Q rest (a.put o.dst v') w') :
    wpList P ops Q (o :: rest) a (w.alloc (.cells cs e)) :=
  wpList_plain hgd fun _ hK => wp_appendT' S w s x ho y cs hcs base v xss hs hx hown hy hn hn2 hb fun v' w' k1 k2 k3 => hK _ _ (h v' w' k1 k2 k3)
end Go.Proofs.Ytkgepklapglmdaa
