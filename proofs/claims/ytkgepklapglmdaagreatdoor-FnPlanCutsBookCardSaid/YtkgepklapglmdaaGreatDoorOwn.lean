/-
  Lemmas and contracts of single functions of this program, used by the proofs of its laws: what each call returns and what becomes of memory. Conditions: the hypotheses of each theorem.
-/
import Derived.Test.YtkgepklapglmdaaGreatDoorWords
import Derived.OneCell
namespace Go.Proofs.YtkgepklapglmdaaGreatDoor
open Go.RowKit

theorem gv_append_lt {vs : List Value} {u : Value} {k : Nat} (h : k < vs.length) : gv (vs ++ [u]) k = gv vs k := by
  unfold gv; simp [List.getD, List.getElem?_append_left h]
theorem gv_append_eq {vs : List Value} {u : Value} : gv (vs ++ [u]) vs.length = u := by
  unfold gv; simp
theorem gr_append_lt {xs : List (List Int)} {u : List Int} {k : Nat} (h : k < xs.length) : gr (xs ++ [u]) k = gr xs k := by
  unfold gr; simp [List.getD, List.getElem?_append_left h]
theorem gr_append_eq {xs : List (List Int)} {u : List Int} : gr (xs ++ [u]) xs.length = u := by
  unfold gr; simp

/-- the block of an owned row that has a home -/
theorem own_home {w : World} {base e size : Nat} {v : Value} {n : Nat} {xs : List Value} (h : w.ownsRow base e size v n xs) {g : Nat} (hg : v.ownBlock = some g) : ∃ cur, w.heap[g]? = some (.cells cur e (0, 0)) := by
  rcases h.2 with ⟨rfl, _⟩ | ⟨g', cap, cur, rfl, _, hh, _⟩
  · simp [Value.ownBlock] at hg
  · simp [Value.ownBlock] at hg
    subst hg
    exact ⟨cur, hh⟩
theorem own_types {w : World} {b1 b2 e1 e2 s1 s2 : Nat} {v u : Value} {n m : Nat} {xs ys : List Value} (h : w.ownsRow b1 e1 s1 v n xs) (k : w.ownsRow b2 e2 s2 u m ys) (hne : e1 ≠ e2) {g : Nat} (hg : v.ownBlock = some g) (hk : u.ownBlock = some g) : False := by
  obtain ⟨c1, h1⟩ := own_home h hg
  obtain ⟨c2, h2⟩ := own_home k hk
  rw [h1] at h2
  simp at h2
  exact hne h2.2

/-- lists of lists of ints that the call owns: all blocks from base on, before s -/
def OwnR (w : World) (base s tS tI : Nat) (v : Value) (xss : List (List Int)) : Prop :=
  ∃ vs, w.ownsRow base tS 1 v xss.length vs ∧ (∀ g, v.ownBlock = some g → g < s) ∧ (∀ k, k < xss.length → OwnI w base tI (gv vs k) (gr xss k) ∧ ∀ g, (gv vs k).ownBlock = some g → g < s) ∧
    ∀ j k, j < k → k < xss.length → ∀ g, (gv vs j).ownBlock = some g → (gv vs k).ownBlock ≠ some g

theorem ownsRow_len {w : World} {base tS n : Nat} {v : Value} {vs : List Value} (h : w.ownsRow base tS 1 v n vs) : vs.length = n := by simpa using h.1

theorem OwnI.keptBlock {w w' : World} {base e : Nat} {v : Value} {xs : List Int} (h : OwnI w base e v xs) (hk : ∀ g, v.ownBlock = some g → w'.heap[g]? = w.heap[g]?) : OwnI w' base e v xs := by
  refine ⟨⟨h.1.1, ?_⟩, h.2⟩
  rcases h.1.2 with hv | ⟨g, cap, cur, rfl, hb, hg, rest⟩
  · exact .inl hv
  · exact .inr ⟨g, cap, cur, rfl, hb, (hk g rfl).trans hg, rest⟩
theorem ownsRow_keptBlock {w w' : World} {base e size : Nat} {v : Value} {n : Nat} {xs : List Value} (h : w.ownsRow base e size v n xs) (hk : ∀ g, v.ownBlock = some g → w'.heap[g]? = w.heap[g]?) : w'.ownsRow base e size v n xs := by
  refine ⟨h.1, ?_⟩
  rcases h.2 with hv | ⟨g, cap, cur, rfl, hb, hg, rest⟩
  · exact .inl hv
  · exact .inr ⟨g, cap, cur, rfl, hb, (hk g rfl).trans hg, rest⟩
theorem ownsRow_base {w : World} {base base' e size : Nat} {v : Value} {n : Nat} {xs : List Value} (h : w.ownsRow base e size v n xs) (hb : base' ≤ base) : w.ownsRow base' e size v n xs := by
  refine ⟨h.1, ?_⟩
  rcases h.2 with hv | ⟨g, cap, cur, rfl, hbb, hg, rest⟩
  · exact .inl hv
  · exact .inr ⟨g, cap, cur, rfl, by omega, hg, rest⟩

theorem OwnR.kept {w w' : World} {base s tS tI : Nat} {v : Value} {xss : List (List Int)} (h : OwnR w base s tS tI v xss) (hk : Kept base s w w') : OwnR w' base s tS tI v xss := by
  obtain ⟨vs, h1, h2, h3, h4⟩ := h
  refine ⟨vs, ownsRow_keptBlock h1 fun g hg => hk g (h1.lt g hg).1 (h2 g hg), h2, fun k hl => ⟨(h3 k hl).1.keptBlock fun g hg => hk g ((h3 k hl).1.lt g hg).1 ((h3 k hl).2 g hg), (h3 k hl).2⟩, h4⟩
theorem OwnR.wide {w : World} {base s base' s' tS tI : Nat} {v : Value} {xss : List (List Int)} (h : OwnR w base s tS tI v xss) (hb : base' ≤ base) (hs : s ≤ s') : OwnR w base' s' tS tI v xss := by
  obtain ⟨vs, h1, h2, h3, h4⟩ := h
  exact ⟨vs, ownsRow_base h1 hb, fun g hg => Nat.lt_of_lt_of_le (h2 g hg) hs, fun k hl => ⟨(h3 k hl).1.base hb, fun g hg => Nat.lt_of_lt_of_le ((h3 k hl).2 g hg) hs⟩, h4⟩
theorem OwnR.nil (w : World) (base s tS tI : Nat) : OwnR w base s tS tI (.slice none 0 0) [] :=
  ⟨[], World.ownsRow_nil _ _ _ _, fun g hg => by simp [Value.ownBlock] at hg, fun k hk => absurd hk (by simp), fun j k _ hk => absurd hk (by simp)⟩
theorem OwnR.empty (w : World) (base tS tI : Nat) (hb : base ≤ w.heap.size) : OwnR (w.alloc (.cells #[] tS)) base (w.heap.size + 1) tS tI (.slice (some ⟨w.heap.size, 0, none⟩) 0 0) [] :=
  ⟨[], World.ownsRow_made w #[] 0 hb (by simp [maxLen]) (by simp), fun g hg => by simp [Value.ownBlock] at hg; omega, fun k hk => absurd hk (by simp), fun j k _ hk => absurd hk (by simp)⟩
theorem OwnI.ints_at {w : World} {base e s : Nat} {v : Value} {xs : List Int} (h : OwnI w base e v xs) (hs : ∀ g, v.ownBlock = some g → g < s) : Ints w base s v xs := by
  obtain ⟨A, c, h1, h2, h3, h4, h5⟩ := h.ints
  refine ⟨A, c, h1, h2, h3, ⟨h4.1, fun hn => ?_⟩, h5⟩
  obtain ⟨b, o, e1, hl, _, hc⟩ := h4.2 hn
  exact ⟨b, o, e1, hl, hs b (by rw [h1, e1]; rfl), hc⟩
theorem OwnR.rows {w : World} {base s tS tI : Nat} {v : Value} {xss : List (List Int)} (h : OwnR w base s tS tI v xss) : IRows w base s v xss := by
  obtain ⟨vs, h1, h2, h3, _⟩ := h
  have hrow : ∀ k, k < xss.length → Ints w base s (gv vs k) (gr xss k) := fun k hk => (h3 k hk).1.ints_at (h3 k hk).2
  rcases h1.2 with ⟨rfl, hn⟩ | ⟨g, cap, cur, rfl, hb, hg, hc, hm, hs, ht⟩
  · have : xss = [] := List.eq_nil_of_length_eq_zero hn
    subst this
    have hvs : vs = [] := List.eq_nil_of_length_eq_zero (by simpa using h1.1)
    subst hvs
    exact ⟨none, 0, [], rfl, by simp, by simp [maxLen], ⟨by simp, fun h => absurd h (by simp)⟩, hrow⟩
  · refine ⟨some ⟨g, 0, none⟩, cap, vs, rfl, hc, hm, ⟨h1.1, fun _ => ⟨g, 0, rfl, hb, h2 g rfl, fun j u hu => ?_⟩⟩, hrow⟩
    rw [Nat.zero_add, cell_of_row w g j cur tS (0, 0) hg, ← Array.getElem?_toList]
    rw [← ht, List.getElem?_take] at hu
    split at hu
    · exact hu
    · cases hu
theorem OwnR.i64 {w : World} {base s tS tI : Nat} {v : Value} {xss : List (List Int)} (h : OwnR w base s tS tI v xss) : ∀ k, k < xss.length → ∀ x ∈ gr xss k, I64 x := by
  obtain ⟨vs, h1, h2, h3, _⟩ := h
  exact fun k hk => (h3 k hk).1.2

def set2 (xss : List (List Int)) (r i : Nat) (x : Int) : List (List Int) := xss.set r ((gr xss r).set i x)
theorem set2_len (xss : List (List Int)) (r i : Nat) (x : Int) : (set2 xss r i x).length = xss.length := by simp [set2]
theorem gr_set2_eq {xss : List (List Int)} {r i : Nat} {x : Int} (h : r < xss.length) : gr (set2 xss r i x) r = (gr xss r).set i x := by
  unfold set2 gr; simp [h]
theorem gr_set2_ne {xss : List (List Int)} {r i k : Nat} {x : Int} (h : r ≠ k) : gr (set2 xss r i x) k = gr xss k := by
  unfold set2 gr; simp [List.getD, List.getElem?_set_ne h]

theorem OwnI.setI {w : World} {base e g n c : Nat} {xs : List Int} (h : OwnI w base e (.slice (some ⟨g, 0, none⟩) n c) xs) (i : Nat) {x : Int} (hx : I64 x) : OwnI (w.setCell ⟨g, i, none⟩ (.int .i64 x)) base e (.slice (some ⟨g, 0, none⟩) n c) (xs.set i x) := by
  have hn : n = xs.length := by
    obtain ⟨A, c', e1, _⟩ := h.form
    injection e1
  subst hn
  have h1 := h.1.stored i (.int .i64 x)
  refine ⟨?_, fun y hy => ?_⟩
  · have h2 := h1.1
    rw [← List.map_set] at h2
    simpa using h2
  · rcases List.mem_or_eq_of_mem_set hy with hy | hy
    · exact h.2 y hy
    · rw [hy]; exact hx

/-- one place of an owned list of lists: what is there, and what a store does -/
theorem OwnR.at_ {w : World} {base s tS tI n c : Nat} {A : Option Addr} {xss : List (List Int)} (h : OwnR w base s tS tI (.slice A n c) xss) (hne : tS ≠ tI) {r i : Nat} (hr : r < xss.length) (hi : i < (gr xss r).length) :
    ∃ g gi' ci, A = some ⟨g, 0, none⟩ ∧ base ≤ g ∧ g < s ∧ w.cell? ⟨g, r, none⟩ = some (.slice (some ⟨gi', 0, none⟩) (gr xss r).length ci) ∧ (gr xss r).length ≤ ci ∧ ci ≤ 2 ^ 63 - 1 ∧ base ≤ gi' ∧ gi' < s ∧ gi' ≠ g ∧
      w.cell? ⟨gi', i, none⟩ = some (.int .i64 (gi (gr xss r) i)) ∧ w.frozen? ⟨gi', i, none⟩ = false ∧
      ∀ x, I64 x → OwnR (w.setCell ⟨gi', i, none⟩ (.int .i64 x)) base s tS tI (.slice A n c) (set2 xss r i x) := by
  obtain ⟨b, o, Ai, ci, hA, hb1, hb2, hcell, hci, hmi, hints⟩ := h.rows.row hr
  obtain ⟨vs, h1, h2, h3, h4⟩ := h
  have hvl := ownsRow_len h1
  have hg : ∃ g, A = some ⟨g, 0, none⟩ := by
    rcases h1.2 with ⟨e, h0⟩ | ⟨g, cap, cur, e, _⟩
    · omega
    · injection e with e1; exact ⟨g, e1⟩
  obtain ⟨g, rfl⟩ := hg
  simp only [Option.some.injEq, Addr.mk.injEq, and_true] at hA
  obtain ⟨rfl, rfl⟩ := hA
  rw [Nat.zero_add] at hcell
  have hn : n = xss.length := by
    rcases h1.2 with ⟨e, h0⟩ | ⟨g', cap, cur, e, _⟩
    · exact absurd e (by simp)
    · injection e
  subst hn
  have hv : gv vs r = .slice Ai (gr xss r).length ci := by
    have hc := h1.cellAt r (by omega)
    rw [hcell] at hc
    unfold gv
    rw [List.getD_eq_getElem?_getD, ← hc]; rfl
  have hown := (h3 r hr).1
  rw [hv] at hown
  have hgi : ∃ gi', Ai = some ⟨gi', 0, none⟩ := by
    rcases hown.1.2 with ⟨e, h0⟩ | ⟨g', cap, cur, e, _⟩
    · omega
    · injection e with e1; exact ⟨g', e1⟩
  obtain ⟨gi', rfl⟩ := hgi
  have hlt := hown.lt gi' rfl
  have hs' := (h3 r hr).2 gi' (by rw [hv]; rfl)
  have hgne : gi' ≠ g := fun e => own_types h1 hown.1 hne (g := g) rfl (by rw [← e]; rfl)
  refine ⟨g, gi', ci, rfl, hb1, hb2, hcell, hci, hmi, hlt.1, hs', hgne, ?_, hown.1.frozenAt i, fun x hx => ⟨vs, ?_, h2, fun k hk => ?_, fun j k hjk hk => ?_⟩⟩
  · have := hints.cell' hi
    simpa using this
  · rw [set2_len]
    exact ownsRow_keptBlock h1 fun g' hg' => by
      simp only [Value.ownBlock, Option.some.injEq] at hg'
      exact Below.heap_setCell w _ _ g' (by rw [← hg']; exact fun e => hgne e.symm)
  · rw [set2_len] at hk
    by_cases hkr : k = r
    · subst hkr
      rw [gr_set2_eq hk, hv]
      exact ⟨hown.setI i hx, fun g' hg' => (h3 k hk).2 g' (by rw [hv]; exact hg')⟩
    · rw [gr_set2_ne (fun e => hkr e.symm)]
      refine ⟨(h3 k hk).1.keptBlock fun g' hg' => Below.heap_setCell w _ _ g' ?_, (h3 k hk).2⟩
      show g' ≠ gi'
      rintro rfl
      rcases Nat.lt_or_gt_of_ne hkr with hlt' | hlt'
      · exact h4 k r hlt' hr g' hg' (by rw [hv]; rfl)
      · exact h4 r k hlt' hk g' (by rw [hv]; rfl) hg'
  · rw [set2_len] at hk
    exact h4 j k hjk hk

theorem OwnR.form {w : World} {base s tS tI : Nat} {v : Value} {xss : List (List Int)} (h : OwnR w base s tS tI v xss) : ∃ A c, v = .slice A xss.length c ∧ xss.length ≤ c ∧ c ≤ 2 ^ 63 - 1 := h.rows.form

/-- 'append(v, u)' of a list of lists: u was made by a call that began at block s -/
theorem wpList_appendR {P : Program} {t e tI : TypeId} (S : SlT P t e (.slice none 0 0) 1 24) (hte : e ≠ tI) {ops : Array Oper} {rest : List Oper} {o : Oper} {a : Act} {Q : Exit → Act → World → Prop} (w : World) (hgd : o.guard = none) (s x : Operand)
    (ho : o.op = .call { callee := .builtin .append, args := #[s, x], argTypes := #[t, t] }) (A : Option Addr) (m c : Nat)
    (base sz : Nat) (v : Value) (xss : List (List Int)) (ys : List Int) (hs : a.eval s = v) (hx : a.eval x = .slice (some ⟨w.heap.size, 0, none⟩) 1 1) (hown : OwnR w base sz e tI v xss) (hu : OwnI w sz tI (.slice A m c) ys)
    (hn : xss.length ≤ 1099511627776) (hb : base ≤ sz) (hsz : sz ≤ w.heap.size)
    (h : ∀ v' w', OwnR w' base w'.heap.size e tI v' (xss ++ [ys]) → Grew base v v' w w' → wpList P ops Q rest (a.put o.dst v') w') :
    wpList P ops Q (o :: rest) a (w.alloc (.cells #[.slice A m c] e)) := by
  obtain ⟨vs, h1, h2, h3, h4⟩ := hown
  have hvl := ownsRow_len h1
  refine wpList_append1 S w hgd s x ho #[.slice A m c] base v xss.length vs hs hx h1 rfl (by simp [Value.oneCell']) (by omega) (by omega) (by omega) fun v' w' k1 k2 k3 k4 => ?_
  have kold : ∀ k, k < w.heap.size → some k ≠ v.ownBlock → w'.heap[k]? = w.heap[k]? := fun k hk hne => by
    rw [k2.block k (by simp; omega) hne]
    exact Below.heap_alloc w _ k hk
  refine h v' w' ⟨vs ++ [.slice A m c], by simpa using k1, fun g hg => (k1.lt g hg).2, fun k hk => ?_, fun j k hjk hk g hg => ?_⟩ ⟨k3, by omega, kold⟩
  · rw [List.length_append, List.length_singleton] at hk
    by_cases hkl : k < xss.length
    · rw [gv_append_lt (by omega), gr_append_lt hkl]
      refine ⟨(h3 k hkl).1.keptBlock fun g hg => kold g ((h3 k hkl).1.lt g hg).2 fun e => own_types h1 (h3 k hkl).1.1 hte e.symm hg, fun g hg => ?_⟩
      have := (h3 k hkl).2 g hg
      omega
    · have hke : k = xss.length := by omega
      subst hke
      rw [gr_append_eq]
      rw [← hvl, gv_append_eq]
      refine ⟨(hu.base hb).keptBlock fun g hg => kold g (hu.lt g hg).2 fun e => own_types h1 hu.1 hte e.symm hg, fun g hg => ?_⟩
      have := (hu.lt g hg).2
      omega
  · rw [List.length_append, List.length_singleton] at hk
    rw [gv_append_lt (by omega)] at hg
    by_cases hkl : k < xss.length
    · rw [gv_append_lt (by omega)]
      exact h4 j k hjk hkl g hg
    · have hke : k = vs.length := by omega
      subst hke
      rw [gv_append_eq]
      intro e
      have := (hu.lt g e).1
      have := (h3 j (by omega)).2 g hg
      omega

section
variable {P : Program} (w : World)
theorem run_append_of_nil (base : Nat) (t ty e : TypeId) (i : TypeInfo) (size : Nat) (ht : P.underlying t = some (.slice e)) (hi : P.info? e = some i)
    (v : Value) (n : Nat) (xs : List Value) (hown : w.ownsRow base e size v n xs) (c : Nat) : (Builtin.append_ #[t, t] ty #[v, .slice none 0 c]).run P w = .ok v w := by
  rcases hown.2 with ⟨rfl, rfl⟩ | ⟨g, cap, cur, rfl, _, _, hnc, _⟩
  · simp [Builtin.append_, run_underlying ht, sizeOf, typeInfo, hi, Builtin.lenOf, Builtin.firstCells]
  · simp [Builtin.append_, run_underlying ht, sizeOf, typeInfo, hi, Builtin.lenOf, Builtin.firstCells, hnc, storeCells]
end

/-- 'append(v, u...)' of rows: whatever the source's address -/
theorem wpList_append_many {P : Program} {t e : TypeId} {z : Value} {size bytes : Nat} (S : SlT P t e z size bytes) {ops : Array Oper} {rest : List Oper} {o : Oper} {a : Act} {Q : Exit → Act → World → Prop} (w : World) (hgd : o.guard = none) (s x : Operand)
    (ho : o.op = .call { callee := .builtin .append, args := #[s, x], argTypes := #[t, t] }) (lo hi : Nat) (A : Option Addr) (m c : Nat)
    (base : Nat) (v : Value) (n : Nat) (xs ys : List Value) (hs : a.eval s = v) (hx : a.eval x = .slice A m c) (hown : w.ownsRow base e size v n xs) (hsrc : Rd w lo hi size A m ys) (h1 : ∀ u ∈ ys, u.oneCell' = true)
    (hn : (n + m) * bytes ≤ 140737488355328) (hn2 : n + m ≤ 140737488355328) (hb : base ≤ w.heap.size)
    (h : ∀ v' w', w'.ownsRow base e size v' (n + m) (xs ++ ys) → w.grownBy w' v.ownBlock → Below base w w' → wpList P ops Q rest (a.put o.dst v') w') :
    wpList P ops Q (o :: rest) a w := by
  obtain ⟨i, hi', hz1, hz2, hz3⟩ := info_parts S.hi
  rcases Nat.eq_zero_or_pos m with h0 | h0
  · subst h0
    have hy : ys = [] := List.eq_nil_of_length_eq_zero (by simpa using hsrc.1)
    subst hy
    rcases A with _ | ad
    · refine wpList_plain hgd fun K hK => ?_
      have hr := run_append_of_nil (P := P) w base t o.type e i size S.ht hi' v n xs hown c
      unfold Oper.wp execOp
      simp only [ho, resolve, invoke, builtin, Sem.run_bind, Sem.run_pure, Result.andThen_ok, List.map_toArray, List.map_cons, List.map_nil, hs, hx, hr]
      exact hK _ _ (h v w (by simpa using hown) (World.grownBy.refl w _) (Below.refl _ _))
    · exact wpList_append_own w hgd s x t ho base e i z size bytes S.ht hi' hz1 hz2 hz3 S.hz S.hs v n xs hs hown ad 0 c [] hx (by simp) (fun j u hu => by simp at hu) h1 (by unfold maxLen; omega) hn hb
        fun v' w' k1 k2 _ => h v' w' k1 k2 ((Below.refl base w).grown k2 hb fun k hk => (hown.lt k hk).1)
  · obtain ⟨b, o', rfl, _, _, hc⟩ := hsrc.2 h0
    exact wpList_append_own w hgd s x t ho base e i z size bytes S.ht hi' hz1 hz2 hz3 S.hz S.hs v n xs hs hown ⟨b, o', none⟩ m c ys hx hsrc.1 (fun j u hu => by
        have := hc j u hu
        have hadd : (⟨b, o', none⟩ : Addr).add j = ⟨b, o' + j, none⟩ := by unfold Addr.add; split <;> simp_all
        rw [hadd]; exact this) h1 (by unfold maxLen; omega) hn hb
      fun v' w' k1 k2 _ => h v' w' k1 k2 ((Below.refl base w).grown k2 hb fun k hk => (hown.lt k hk).1)

theorem wpList_appendIs {P : Program} {t e : TypeId} (S : SlT P t e (.int .i64 0) 1 8) {ops : Array Oper} {rest : List Oper} {o : Oper} {a : Act} {Q : Exit → Act → World → Prop} (w : World) (hgd : o.guard = none) (s x : Operand)
    (ho : o.op = .call { callee := .builtin .append, args := #[s, x], argTypes := #[t, t] }) (lo hi : Nat) (u : Value)
    (base : Nat) (v : Value) (xs ys : List Int) (hs : a.eval s = v) (hx : a.eval x = u) (hown : OwnI w base e v xs) (hsrc : Ints w lo hi u ys)
    (hn : xs.length + ys.length ≤ 1099511627776) (hb : base ≤ w.heap.size)
    (h : ∀ v' w', OwnI w' base e v' (xs ++ ys) → Grew base v v' w w' → wpList P ops Q rest (a.put o.dst v') w') :
    wpList P ops Q (o :: rest) a w := by
  obtain ⟨A, c, rfl, hc, hm, hr, h64⟩ := hsrc
  refine wpList_append_many S w hgd s x ho lo hi A ys.length c base v xs.length (xs.map (.int .i64)) (ys.map (.int .i64)) hs hx hown.1 hr (ints_oneCell _ _) (by omega) (by omega) hb fun v' w' k1 k2 k3 => h v' w' ⟨by simpa using k1, ?_⟩ ⟨k3, k2.size, k2.block⟩
  intro y hy
  rcases List.mem_append.1 hy with hy | hy
  · exact hown.2 y hy
  · exact h64 y hy

/-- 'out[i] = u' of a list of lists: u was made by a call that began at block sz -/
theorem OwnR.putRow {w : World} {base sz s' tS tI n c : Nat} {A : Option Addr} {xss : List (List Int)} {u : Value} {ys : List Int} (h : OwnR w base sz tS tI (.slice A n c) xss) (hne : tS ≠ tI) (hu : OwnI w sz tI u ys) (hb : base ≤ sz) (hs : sz ≤ s') (hus : w.heap.size ≤ s') {k : Nat} (hk : k < xss.length) :
    ∃ g, A = some ⟨g, 0, none⟩ ∧ base ≤ g ∧ g < sz ∧ (∃ x, w.cell? ⟨g, k, none⟩ = some x) ∧ w.frozen? ⟨g, k, none⟩ = false ∧ OwnR (w.setCell ⟨g, k, none⟩ u) base s' tS tI (.slice A n c) (xss.set k ys) := by
  obtain ⟨vs, h1, h2, h3, h4⟩ := h
  have hvl := ownsRow_len h1
  have hg : ∃ g, A = some ⟨g, 0, none⟩ := by
    rcases h1.2 with ⟨e, h0⟩ | ⟨g, cap, cur, e, _⟩
    · omega
    · injection e with e1; exact ⟨g, e1⟩
  obtain ⟨g, rfl⟩ := hg
  have hn : n = xss.length := by
    rcases h1.2 with ⟨e, h0⟩ | ⟨g', cap, cur, e, _⟩
    · exact absurd e (by simp)
    · injection e
  subst hn
  have hlt := h1.lt g rfl
  have hg2 := h2 g rfl
  refine ⟨g, rfl, hlt.1, hg2, ⟨vs[k]'(by omega), ?_⟩, h1.frozenAt k, ⟨vs.set k u, ?_, fun g' hg' => Nat.lt_of_lt_of_le (h2 g' hg') hs, fun j hj => ?_, fun i j hij hj g' hg' => ?_⟩⟩
  · rw [h1.cellAt k (by omega)]; exact List.getElem?_eq_getElem (by omega)
  · have := (h1.stored k u).1
    simpa using this
  · rw [List.length_set] at hj
    by_cases hjk : j = k
    · subst hjk
      have e1 : gv (vs.set j u) j = u := by simp [gv, show j < vs.length by omega]
      have e2 : gr (xss.set j ys) j = ys := by simp [gr, hj]
      rw [e1, e2]
      refine ⟨(hu.base hb).keptBlock fun g' hg' => Below.heap_setCell w _ _ g' ?_, fun g' hg' => Nat.lt_of_lt_of_le (hu.lt g' hg').2 hus⟩
      intro e
      have := (hu.lt g' hg').1
      have : g' = g := e
      omega
    · have e1 : gv (vs.set k u) j = gv vs j := by simp [gv, List.getD, List.getElem?_set_ne (fun e => hjk e.symm)]
      have e2 : gr (xss.set k ys) j = gr xss j := by simp [gr, List.getD, List.getElem?_set_ne (fun e => hjk e.symm)]
      rw [e1, e2]
      refine ⟨(h3 j hj).1.keptBlock fun g' hg' => Below.heap_setCell w _ _ g' ?_, fun g' hg' => Nat.lt_of_lt_of_le ((h3 j hj).2 g' hg') hs⟩
      intro e
      exact own_types h1 (h3 j hj).1.1 hne (g := g) rfl (by rw [hg']; congr 1)
  · rw [List.length_set] at hj
    by_cases hjk : j = k
    · subst hjk
      have e1 : gv (vs.set j u) j = u := by simp [gv, show j < vs.length by omega]
      have e2 : gv (vs.set j u) i = gv vs i := by simp [gv, List.getD, List.getElem?_set_ne (show j ≠ i by omega)]
      rw [e2] at hg'
      rw [e1]
      intro e
      have := (hu.lt g' e).1
      have := (h3 i (by omega)).2 g' hg'
      omega
    · have e1 : gv (vs.set k u) j = gv vs j := by simp [gv, List.getD, List.getElem?_set_ne (fun e => hjk e.symm)]
      rw [e1]
      by_cases hik : i = k
      · subst hik
        have e2 : gv (vs.set i u) i = u := by simp [gv, show i < vs.length by omega]
        rw [e2] at hg'
        intro e
        have := (hu.lt g' hg').1
        have := (h3 j hj).2 g' e
        omega
      · have e2 : gv (vs.set k u) i = gv vs i := by simp [gv, List.getD, List.getElem?_set_ne (fun e => hik e.symm)]
        rw [e2] at hg'
        exact h4 i j hij hj g' hg'

theorem OwnI.at_ {w : World} {base e n c : Nat} {A : Option Addr} {xs : List Int} (h : OwnI w base e (.slice A n c) xs) {i : Nat} (hi : i < xs.length) :
    ∃ g, A = some ⟨g, 0, none⟩ ∧ base ≤ g ∧ g < w.heap.size ∧ w.cell? ⟨g, i, none⟩ = some (.int .i64 (gi xs i)) ∧ w.frozen? ⟨g, i, none⟩ = false ∧
      ∀ x, I64 x → OwnI (w.setCell ⟨g, i, none⟩ (.int .i64 x)) base e (.slice A n c) (xs.set i x) := by
  have hg : ∃ g, A = some ⟨g, 0, none⟩ := by
    rcases h.1.2 with ⟨e, h0⟩ | ⟨g, cap, cur, e, _⟩
    · omega
    · injection e with e1; exact ⟨g, e1⟩
  obtain ⟨g, rfl⟩ := hg
  have hc := h.ints.cell' hi
  rw [Nat.zero_add] at hc
  have hn : n = xs.length := by
    obtain ⟨A, c', e1, _⟩ := h.form
    injection e1
  subst hn
  exact ⟨g, rfl, (h.lt g rfl).1, (h.lt g rfl).2, hc, h.1.frozenAt i, fun x hx => h.setI i hx⟩

/-- a made list of n zeros -/
theorem OwnI.made {w : World} {base e n c : Nat} {A : Option Addr} (h : w.ownsRow base e 1 (.slice A n c) n (madeCells (Value.cells (.int .i64 0)) (n * 1)).toList) : OwnI w base e (.slice A n c) (List.replicate n 0) := by
  refine ⟨?_, fun x hx => ?_⟩
  · rw [List.length_replicate, List.map_replicate]
    have e1 : (madeCells (Value.cells (.int .i64 0)) (n * 1)).toList = List.replicate n (.int .i64 0) := by
      rw [Nat.mul_one]; exact toList_madeCells_one _ _
    rw [← e1]; exact h
  · rw [(List.mem_replicate.1 hx).2]; exact ⟨by omega, by omega⟩
theorem OwnR.made {w : World} {base tS tI n c : Nat} {A : Option Addr} (h : w.ownsRow base tS 1 (.slice A n c) n (madeCells (Value.cells (.slice none 0 0)) (n * 1)).toList) : OwnR w base w.heap.size tS tI (.slice A n c) (List.replicate n []) := by
  have e1 : (madeCells (Value.cells (.slice none 0 0)) (n * 1)).toList = List.replicate n (.slice none 0 0) := by
    rw [Nat.mul_one]; exact toList_madeCells_one _ _
  rw [e1] at h
  have e2 : ∀ k, k < n → gv (List.replicate n (.slice none 0 0)) k = .slice none 0 0 := fun k hk => by simp [gv, hk]
  have e3 : ∀ k, k < n → gr (List.replicate n []) k = [] := fun k hk => by unfold gr; rw [List.getD_eq_getElem?_getD, List.getElem?_replicate, if_pos hk]; rfl
  refine ⟨List.replicate n (.slice none 0 0), by rw [List.length_replicate]; exact h, fun g hg => (h.lt g hg).2, fun k hk => ?_, fun j k hjk hk g hg => ?_⟩
  · rw [List.length_replicate] at hk
    rw [e2 k hk, e3 k hk]
    exact ⟨OwnI.nil _ _ _, fun g hg => by simp [Value.ownBlock] at hg⟩
  · rw [List.length_replicate] at hk
    rw [e2 j (by omega)] at hg
    simp [Value.ownBlock] at hg

theorem wpList_makeI {P : Program} {t e : TypeId} (S : SlT P t e (.int .i64 0) 1 8) {ops : Array Oper} {rest : List Oper} {o : Oper} {a : Act} {Q : Exit → Act → World → Prop} (w : World) (hgd : o.guard = none) (l c : Operand)
    (ho : o.op = Op.makeSlice t l c) (base n : Nat) (hl : a.eval l = .int .i64 (n : Int)) (hc : a.eval c = .int .i64 (n : Int)) (hn : n ≤ 1099511627776) (hb : base ≤ w.heap.size)
    (h : ∀ w', OwnI w' base e (.slice (some ⟨w.heap.size, 0, none⟩) n n) (List.replicate n 0) → Below w.heap.size w w' → w.heap.size < w'.heap.size → wpList P ops Q rest (a.put o.dst (.slice (some ⟨w.heap.size, 0, none⟩) n n)) w') :
    wpList P ops Q (o :: rest) a w := by
  obtain ⟨i, hi, hz1, hz2, hz3⟩ := info_parts S.hi
  exact wpList_make_full w hgd l c t ho base e i _ 1 S.ht hi hz1 hz2 .i64 .i64 _ _ n hl hc rfl rfl (by rw [hz3]; omega) (by unfold maxLen; omega) hb fun w' k1 k2 =>
    h w' (OwnI.made k1) ((Below.refl _ _).grown k2 (Nat.le_refl _) fun k hk => by cases hk) (k1.lt _ rfl).2
/-- writes to the blocks lo .. hi-1 alone; no new block -/
structure Only (lo hi : Nat) (w w' : World) : Prop where
  os : w'.os = w.os
  tape : w'.tape = w.tape
  output : w'.output = w.output
  size : w'.heap.size = w.heap.size
  block : ∀ k, (k < lo ∨ hi ≤ k) → w'.heap[k]? = w.heap[k]?
theorem Only.refl (lo hi : Nat) (w : World) : Only lo hi w w := ⟨rfl, rfl, rfl, rfl, fun _ _ => rfl⟩
theorem Only.trans {lo hi : Nat} {a b c : World} (h : Only lo hi a b) (k : Only lo hi b c) : Only lo hi a c :=
  ⟨k.os.trans h.os, k.tape.trans h.tape, k.output.trans h.output, k.size.trans h.size, fun i hi => (k.block i hi).trans (h.block i hi)⟩
theorem Only.wide {lo hi lo' hi' : Nat} {a b : World} (h : Only lo hi a b) (h1 : lo' ≤ lo) (h2 : hi ≤ hi') : Only lo' hi' a b := ⟨h.os, h.tape, h.output, h.size, fun k hk => h.block k (by omega)⟩
theorem Only.setCell {lo hi : Nat} {a w : World} (h : Only lo hi a w) {p : Addr} (h1 : lo ≤ p.block) (h2 : p.block < hi) (u : Value) : Only lo hi a (w.setCell p u) :=
  h.trans ⟨rfl, rfl, rfl, by simp [World.setCell], fun k hk => Below.heap_setCell _ _ _ _ (by omega)⟩
theorem Only.below {lo hi : Nat} {a w : World} (h : Only lo hi a w) : Below lo a w := ⟨h.os, h.tape, h.output, by rw [h.size]; exact Nat.le_refl _, fun k hk => h.block k (.inl hk)⟩
theorem Only.kept {lo hi : Nat} {a w : World} (h : Only lo hi a w) {l u : Nat} (hd : u ≤ lo ∨ hi ≤ l) : Kept l u a w := fun k h1 h2 => h.block k (by omega)
end Go.Proofs.YtkgepklapglmdaaGreatDoor
