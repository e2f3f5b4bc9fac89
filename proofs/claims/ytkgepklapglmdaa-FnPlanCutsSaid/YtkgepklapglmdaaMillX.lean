/-
  Lemmas and contracts of single functions of this program, used by the proofs of its laws: what each call returns and what becomes of memory. Conditions: the hypotheses of each theorem.
-/
import Derived.Test.YtkgepklapglmdaaMillO
import Derived.Maps.AppendAt
namespace Go.Proofs.Ytkgepklapglmdaa
open Go.RowKit

/-- 'append(v, u...)' at an operation half run: whatever the source's address; and in which block the new slice lies -/
theorem wp_append_many' {P : Program} {t e : TypeId} {z : Value} {size bytes : Nat} (S : SlT P t e z size bytes) {o : Oper} {a : Act} {K : Act → World → Prop} {Q : Exit → Act → World → Prop} (w : World) (s x : Operand)
    (ho : o.op = .call { callee := .builtin .append, args := #[s, x], argTypes := #[t, t] }) (lo hi : Nat) (A : Option Addr) (m c : Nat)
    (base : Nat) (v : Value) (n : Nat) (xs ys : List Value) (hs : a.eval s = v) (hx : a.eval x = .slice A m c) (hown : w.ownsRow base e size v n xs) (hsrc : Rd w lo hi size A m ys) (h1 : ∀ u ∈ ys, u.oneCell' = true)
    (hn : (n + m) * bytes ≤ 140737488355328) (hn2 : n + m ≤ 140737488355328) (hb : base ≤ w.heap.size)
    (h : ∀ v' w', w'.ownsRow base e size v' (n + m) (xs ++ ys) → w.grownBy w' v.ownBlock → Below base w w' → (v'.ownBlock = v.ownBlock ∨ v'.ownBlock = some w.heap.size) → K (a.put o.dst v') w') :
    Oper.wp P o a w K Q := by
  obtain ⟨i, hi', hz1, hz2, hz3⟩ := info_parts S.hi
  have fin : ∀ v' w', (Builtin.append_ #[t, t] o.type #[v, .slice A m c]).run P w = .ok v' w' → K (a.put o.dst v') w' → Oper.wp P o a w K Q := fun v' w' hr hk => by
    unfold Oper.wp execOp
    simp only [ho, resolve, invoke, builtin, Sem.run_bind, Sem.run_pure, Result.andThen_ok, List.map_toArray, List.map_cons, List.map_nil, hs, hx, hr]
    exact hk
  rcases Nat.eq_zero_or_pos m with h0 | h0
  · subst h0
    have hy : ys = [] := List.eq_nil_of_length_eq_zero (by simpa using hsrc.1)
    subst hy
    rcases A with _ | ad
    · exact fin v w (run_append_of_nil (P := P) w base t o.type e i size S.ht hi' v n xs hown c) (h v w (by simpa using hown) (World.grownBy.refl w _) (Below.refl _ _) (.inl rfl))
    · obtain ⟨v', w', hr, k1, k2, _, k4⟩ := run_append_own_at (P := P) w base t o.type e i z size bytes S.ht hi' hz1 hz2 hz3 S.hz S.hs v n xs hown ad 0 c [] (by simp) (fun j u hu => by simp at hu) h1 (by unfold maxLen; omega) hn hb
      exact fin v' w' hr (h v' w' k1 k2 ((Below.refl base w).grown k2 hb fun k hk => (hown.lt k hk).1) k4)
  · obtain ⟨b, o', rfl, _, _, hc⟩ := hsrc.2 h0
    obtain ⟨v', w', hr, k1, k2, _, k4⟩ := run_append_own_at (P := P) w base t o.type e i z size bytes S.ht hi' hz1 hz2 hz3 S.hz S.hs v n xs hown ⟨b, o', none⟩ m c ys hsrc.1 (fun j u hu => by
        have := hc j u hu
        have hadd : (⟨b, o', none⟩ : Addr).add j = ⟨b, o' + j, none⟩ := by unfold Addr.add; split <;> simp_all
        rw [hadd]; exact this) h1 (by unfold maxLen; omega) hn hb
    exact fin v' w' hr (h v' w' k1 k2 ((Below.refl base w).grown k2 hb fun k hk => (hown.lt k hk).1) k4)
/-- 'append(v, x)': x lies in the block that has just been laid -/
theorem wp_append1' {P : Program} {t e : TypeId} {z : Value} {size bytes : Nat} (S : SlT P t e z size bytes) {o : Oper} {a : Act} {K : Act → World → Prop} {Q : Exit → Act → World → Prop} (w : World) (s x : Operand)
    (ho : o.op = .call { callee := .builtin .append, args := #[s, x], argTypes := #[t, t] }) (cs : Array Value)
    (base : Nat) (v : Value) (n : Nat) (xs : List Value) (hs : a.eval s = v) (hx : a.eval x = .slice (some ⟨w.heap.size, 0, none⟩) 1 1) (hown : w.ownsRow base e size v n xs)
    (hcs : cs.size = size) (h1 : ∀ u ∈ cs.toList, u.oneCell' = true) (hn : (n + 1) * bytes ≤ 140737488355328) (hn2 : n + 1 ≤ 140737488355328) (hb : base ≤ w.heap.size)
    (h : ∀ v' w', w'.ownsRow base e size v' (n + 1) (xs ++ cs.toList) → Below base w w' → w.heap.size + 1 ≤ w'.heap.size → (∀ k, k < w.heap.size → some k ≠ v.ownBlock → w'.heap[k]? = w.heap[k]?) → (v'.ownBlock = v.ownBlock ∨ v'.ownBlock = some (w.heap.size + 1)) → K (a.put o.dst v') w') :
    Oper.wp P o a (w.alloc (.cells cs e)) K Q := by
  refine wp_append_many' S (w.alloc (.cells cs e)) s x ho w.heap.size (w.heap.size + 1) (some ⟨w.heap.size, 0, none⟩) 1 1 base v n xs cs.toList hs hx (hown.alloc _) ⟨by simp [hcs], fun _ => ⟨w.heap.size, 0, rfl, Nat.le_refl _, Nat.lt_succ_self _, fun j u hu => by
    have := cells_at_new (w := w) (e := e) hu
    have hadd : (⟨w.heap.size, 0, none⟩ : Addr).add j = ⟨w.heap.size, 0 + j, none⟩ := by unfold Addr.add; split <;> simp_all
    rw [hadd] at this; exact this⟩⟩ h1 hn hn2 (by simp; omega) fun v' w' k1 k2 k3 k4 => h v' w' k1 (((Below.refl base w).alloc hb _).trans k3) (by have := k2.size; simpa using this) (fun k hk hne => ?_) (by simpa using k4)
  rw [k2.block k (by simp; omega) hne]
  exact Below.heap_alloc w _ k hk
/-- 'append(v, e)' of an entry whose slices are read elsewhere; and in which block the new slice lies -/
theorem wp_appendX' {P : Program} {t e : TypeId} {z : Value} (S : SlT P t e z 5 72) {o : Oper} {a : Act} {K : Act → World → Prop} {Q : Exit → Act → World → Prop} (w : World) (s x : Operand)
    (ho : o.op = .call { callee := .builtin .append, args := #[s, x], argTypes := #[t, t] }) (f : Ent) (d p : Value) (base lo hi : Nat) (v : Value) (es : List Ent) (hs : a.eval s = v) (hx : a.eval x = .slice (some ⟨w.heap.size, 0, none⟩) 1 1)
    (hown : OwnX w base lo hi e v es) (hf : E64 f) (hd : TS w lo hi 5 d f.ds) (hp : TS w lo hi 4 p f.ps) (hb : base ≤ w.heap.size) (hh : hi ≤ base) (hn : es.length ≤ 1000000)
    (h : ∀ v' w', OwnX w' base lo hi e v' (es ++ [f]) → Grew base v v' w w' → (v'.ownBlock = v.ownBlock ∨ v'.ownBlock = some (w.heap.size + 1)) → K (a.put o.dst v') w') :
    Oper.wp P o a (w.alloc (.cells #[.int .i64 f.lb, .int .i64 f.W, .int .i64 f.L, d, p] e)) K Q := by
  obtain ⟨cs, vd, vp, h1, h3⟩ := hown
  obtain ⟨Ad, cd, rfl, _⟩ := hd.form
  obtain ⟨Ap, cp, rfl, _⟩ := hp.form
  refine wp_append1' S w s x ho _ base v es.length cs hs hx h1 (by simp) (by
    intro u hu
    simp only [List.mem_cons, List.not_mem_nil, or_false] at hu
    rcases hu with rfl | rfl | rfl | rfl | rfl <;> rfl) (by omega) (by omega) hb fun v' w' k1 k3 k4 ko k5 => h v' w' ?_ ⟨k3, by omega, ko⟩ k5
  have kk : Kept lo hi w w' := fun g _ hg => k3.block g (by omega)
  refine ⟨_, fun k => if k < es.length then vd k else .slice Ad f.ds.length cd, fun k => if k < es.length then vp k else .slice Ap f.ps.length cp, by rw [List.length_append, List.length_singleton]; exact k1, fun k hk => ?_⟩
  rw [List.length_append, List.length_singleton] at hk
  by_cases hlt : k < es.length
  · obtain ⟨a1, a2, a3, a4⟩ := h3 k hlt
    simp only [if_pos hlt]
    rw [ge_app hlt]
    exact ⟨a1, es5_app a2, a3.kept kk, a4.kept kk⟩
  · have hke : k = es.length := by omega
    subst hke
    simp only [if_neg hlt]
    rw [ge_last]
    exact ⟨hf, es5_last h1.1 f _ _, hd.kept kk, hp.kept kk⟩
theorem wpList_appendX' {P : Program} {t e : TypeId} {z : Value} (S : SlT P t e z 5 72) {ops : Array Oper} {rest : List Oper} {o : Oper} {a : Act} {Q : Exit → Act → World → Prop} (w : World) (hgd : o.guard = none) (s x : Operand)
    (ho : o.op = .call { callee := .builtin .append, args := #[s, x], argTypes := #[t, t] }) (f : Ent) (d p : Value) (base lo hi : Nat) (v : Value) (es : List Ent) (hs : a.eval s = v) (hx : a.eval x = .slice (some ⟨w.heap.size, 0, none⟩) 1 1)
    (hown : OwnX w base lo hi e v es) (hf : E64 f) (hd : TS w lo hi 5 d f.ds) (hp : TS w lo hi 4 p f.ps) (hb : base ≤ w.heap.size) (hh : hi ≤ base) (hn : es.length ≤ 1000000)
    (h : ∀ v' w', OwnX w' base lo hi e v' (es ++ [f]) → Grew base v v' w w' → (v'.ownBlock = v.ownBlock ∨ v'.ownBlock = some (w.heap.size + 1)) → wpList P ops Q rest (a.put o.dst v') w') :
    wpList P ops Q (o :: rest) a (w.alloc (.cells #[.int .i64 f.lb, .int .i64 f.W, .int .i64 f.L, d, p] e)) :=
  wpList_plain hgd fun _ hK => wp_appendX' S w s x ho f d p base lo hi v es hs hx hown hf hd hp hb hh hn fun v' w' k1 k2 k3 => hK _ _ (h v' w' k1 k2 k3)
theorem step_appendX' {P : Program} {t e : TypeId} {z : Value} (S : SlT P t e z 5 72) {ops : Array Oper} {o : Oper} {a : Act} {K : Act → World → Prop} {Q : Exit → Act → World → Prop} {E : Prop} (w : World) (hgd : o.guard = none) (s x : Operand)
    (ho : o.op = .call { callee := .builtin .append, args := #[s, x], argTypes := #[t, t] }) (f : Ent) (d p : Value) (base lo hi : Nat) (v : Value) (es : List Ent) (hs : a.eval s = v) (hx : a.eval x = .slice (some ⟨w.heap.size, 0, none⟩) 1 1)
    (hown : OwnX w base lo hi e v es) (hf : E64 f) (hd : TS w lo hi 5 d f.ds) (hp : TS w lo hi 4 p f.ps) (hb : base ≤ w.heap.size) (hh : hi ≤ base) (hn : es.length ≤ 1000000)
    (h : ∀ v' w', OwnX w' base lo hi e v' (es ++ [f]) → Grew base v v' w w' → (v'.ownBlock = v.ownBlock ∨ v'.ownBlock = some (w.heap.size + 1)) → K (a.put o.dst v') w') :
    if Region.wanted o (yielded ops a.tmps) = true then Oper.wp P o a (w.alloc (.cells #[.int .i64 f.lb, .int .i64 f.W, .int .i64 f.L, d, p] e)) K Q else E := by
  have hw : Region.wanted o (yielded ops a.tmps) = true := by simp [Region.wanted, hgd]
  rw [if_pos hw]
  exact wp_appendX' S w s x ho f d p base lo hi v es hs hx hown hf hd hp hb hh hn h
/-- 'append(v, u...)' of entries that are read elsewhere -/
theorem wp_appendXs' {P : Program} {t e : TypeId} {z : Value} (S : SlT P t e z 5 72) {o : Oper} {a : Act} {K : Act → World → Prop} {Q : Exit → Act → World → Prop} (w : World) (s x : Operand)
    (ho : o.op = .call { callee := .builtin .append, args := #[s, x], argTypes := #[t, t] }) (base lo hi : Nat) (u v : Value) (es fs : List Ent) (hs : a.eval s = v) (hx : a.eval x = u)
    (hown : OwnX w base lo hi e v es) (hsrc : ES w lo hi u fs) (hb : base ≤ w.heap.size) (hh : hi ≤ base) (hn : es.length + fs.length ≤ 1000000)
    (h : ∀ v' w', OwnX w' base lo hi e v' (es ++ fs) → Grew base v v' w w' → (v'.ownBlock = v.ownBlock ∨ v'.ownBlock = some w.heap.size) → K (a.put o.dst v') w') :
    Oper.wp P o a w K Q := by
  obtain ⟨cs, vd, vp, h1, h3⟩ := hown
  obtain ⟨A, c, ys, rfl, hc, hm, hr, hf⟩ := hsrc
  refine wp_append_many' S w s x ho lo hi A fs.length c base v es.length cs ys hs hx h1 hr (ES.oneCell hr.1 hf) (by omega) (by omega) hb fun v' w' k1 k2 k3 k5 => h v' w' ?_ ⟨k3, k2.size, k2.block⟩ k5
  have kk : Kept lo hi w w' := fun g _ hg => k3.block g (by omega)
  have hcl := h1.1
  have ch : ∀ k, ∃ dp : Value × Value, k < fs.length → E64 (ge fs k) ∧ Es5 ys k (ge fs k) dp.1 dp.2 ∧ TS w lo hi 5 dp.1 (ge fs k).ds ∧ TS w lo hi 4 dp.2 (ge fs k).ps := fun k => by
    by_cases hk : k < fs.length
    · obtain ⟨a, d, p, b⟩ := hf k hk
      exact ⟨(d, p), fun _ => ⟨a, b⟩⟩
    · exact ⟨(undef, undef), fun h => absurd h hk⟩
  refine ⟨_, fun k => if k < es.length then vd k else (Classical.choose (ch (k - es.length))).1, fun k => if k < es.length then vp k else (Classical.choose (ch (k - es.length))).2, by rw [List.length_append]; exact k1, fun k hk => ?_⟩
  rw [List.length_append] at hk
  by_cases hlt : k < es.length
  · obtain ⟨a1, a2, a3, a4⟩ := h3 k hlt
    simp only [if_pos hlt]
    rw [ge_app hlt]
    exact ⟨a1, es5_app a2, a3.kept kk, a4.kept kk⟩
  · simp only [if_neg hlt]
    obtain ⟨a1, a2, a3, a4⟩ := Classical.choose_spec (ch (k - es.length)) (by omega)
    rw [ge_app2 (by omega)]
    exact ⟨a1, es5_app2 hcl (by omega) a2, a3.kept kk, a4.kept kk⟩
theorem step_appendXs' {P : Program} {t e : TypeId} {z : Value} (S : SlT P t e z 5 72) {ops : Array Oper} {o : Oper} {a : Act} {K : Act → World → Prop} {Q : Exit → Act → World → Prop} {E : Prop} (w : World) (hgd : o.guard = none) (s x : Operand)
    (ho : o.op = .call { callee := .builtin .append, args := #[s, x], argTypes := #[t, t] }) (base lo hi : Nat) (u v : Value) (es fs : List Ent) (hs : a.eval s = v) (hx : a.eval x = u)
    (hown : OwnX w base lo hi e v es) (hsrc : ES w lo hi u fs) (hb : base ≤ w.heap.size) (hh : hi ≤ base) (hn : es.length + fs.length ≤ 1000000)
    (h : ∀ v' w', OwnX w' base lo hi e v' (es ++ fs) → Grew base v v' w w' → (v'.ownBlock = v.ownBlock ∨ v'.ownBlock = some w.heap.size) → K (a.put o.dst v') w') :
    if Region.wanted o (yielded ops a.tmps) = true then Oper.wp P o a w K Q else E := by
  have hw : Region.wanted o (yielded ops a.tmps) = true := by simp [Region.wanted, hgd]
  rw [if_pos hw]
  exact wp_appendXs' S w s x ho base lo hi u v es fs hs hx hown hsrc hb hh hn h
/-- 'append(v, t)' of tuples, at an operation half run; and in which block the new slice lies -/
theorem wp_appendT' {P : Program} {t e : TypeId} {z : Value} {k bytes : Nat} (S : SlT P t e z k bytes) {o : Oper} {a : Act} {K : Act → World → Prop} {Q : Exit → Act → World → Prop} (w : World) (s x : Operand)
    (ho : o.op = .call { callee := .builtin .append, args := #[s, x], argTypes := #[t, t] }) (y : List Int) (cs : Array Value) (hcs : cs = (y.map (Value.int .i64)).toArray)
    (base : Nat) (v : Value) (xss : List (List Int)) (hs : a.eval s = v) (hx : a.eval x = .slice (some ⟨w.heap.size, 0, none⟩) 1 1) (hown : OwnT w base e k v xss) (hy : y.length = k ∧ ∀ n ∈ y, I64 n)
    (hn : (xss.length + 1) * bytes ≤ 140737488355328) (hn2 : xss.length ≤ 1099511627776) (hb : base ≤ w.heap.size)
    (h : ∀ v' w', OwnT w' base e k v' (xss ++ [y]) → Grew base v v' w w' → (v'.ownBlock = v.ownBlock ∨ v'.ownBlock = some (w.heap.size + 1)) → K (a.put o.dst v') w') :
    Oper.wp P o a (w.alloc (.cells cs e)) K Q := by
  subst hcs
  refine wp_append1' S w s x ho _ base v xss.length (flatT xss) hs hx hown.1 (by simp [hy.1]) (by
    intro u hu
    simp only [List.mem_map] at hu
    obtain ⟨n, _, rfl⟩ := hu
    rfl) hn (by omega) hb fun v' w' k1 k3 k4 ko k5 => h v' w' ⟨?_, ?_⟩ ⟨k3, by omega, ko⟩ k5
  · rw [List.length_append, flatT_append, flatT_one]
    exact k1
  · intro r hr
    rcases List.mem_append.1 hr with hr | hr
    · exact hown.2 r hr
    · rw [List.mem_singleton.1 hr]; exact hy
theorem step_appendT' {P : Program} {t e : TypeId} {z : Value} {k bytes : Nat} (S : SlT P t e z k bytes) {ops : Array Oper} {o : Oper} {a : Act} {K : Act → World → Prop} {Q : Exit → Act → World → Prop} {E : Prop} (w : World) (hgd : o.guard = none) (s x : Operand)
    (ho : o.op = .call { callee := .builtin .append, args := #[s, x], argTypes := #[t, t] }) (y : List Int) (cs : Array Value) (hcs : cs = (y.map (Value.int .i64)).toArray)
    (base : Nat) (v : Value) (xss : List (List Int)) (hs : a.eval s = v) (hx : a.eval x = .slice (some ⟨w.heap.size, 0, none⟩) 1 1) (hown : OwnT w base e k v xss) (hy : y.length = k ∧ ∀ n ∈ y, I64 n)
    (hn : (xss.length + 1) * bytes ≤ 140737488355328) (hn2 : xss.length ≤ 1099511627776) (hb : base ≤ w.heap.size)
    (h : ∀ v' w', OwnT w' base e k v' (xss ++ [y]) → Grew base v v' w w' → (v'.ownBlock = v.ownBlock ∨ v'.ownBlock = some (w.heap.size + 1)) → K (a.put o.dst v') w') :
    if Region.wanted o (yielded ops a.tmps) = true then Oper.wp P o a (w.alloc (.cells cs e)) K Q else E := by
  have hw : Region.wanted o (yielded ops a.tmps) = true := by simp [Region.wanted, hgd]
  rw [if_pos hw]
  exact wp_appendT' S w s x ho y cs hcs base v xss hs hx hown hy hn hn2 hb h
theorem wpList_appendT' {P : Program} {t e : TypeId} {z : Value} {k bytes : Nat} (S : SlT P t e z k bytes) {ops : Array Oper} {rest : List Oper} {o : Oper} {a : Act} {Q : Exit → Act → World → Prop} (w : World) (hgd : o.guard = none) (s x : Operand)
    (ho : o.op = .call { callee := .builtin .append, args := #[s, x], argTypes := #[t, t] }) (y : List Int) (cs : Array Value) (hcs : cs = (y.map (Value.int .i64)).toArray)
    (base : Nat) (v : Value) (xss : List (List Int)) (hs : a.eval s = v) (hx : a.eval x = .slice (some ⟨w.heap.size, 0, none⟩) 1 1) (hown : OwnT w base e k v xss) (hy : y.length = k ∧ ∀ n ∈ y, I64 n)
    (hn : (xss.length + 1) * bytes ≤ 140737488355328) (hn2 : xss.length ≤ 1099511627776) (hb : base ≤ w.heap.size)
    (h : ∀ v' w', OwnT w' base e k v' (xss ++ [y]) → Grew base v v' w w' → (v'.ownBlock = v.ownBlock ∨ v'.ownBlock = some (w.heap.size + 1)) → wpList P ops Q rest (a.put o.dst v') w') :
    wpList P ops Q (o :: rest) a (w.alloc (.cells cs e)) :=
  wpList_plain hgd fun _ hK => wp_appendT' S w s x ho y cs hcs base v xss hs hx hown hy hn hn2 hb fun v' w' k1 k2 k3 => hK _ _ (h v' w' k1 k2 k3)
end Go.Proofs.Ytkgepklapglmdaa
