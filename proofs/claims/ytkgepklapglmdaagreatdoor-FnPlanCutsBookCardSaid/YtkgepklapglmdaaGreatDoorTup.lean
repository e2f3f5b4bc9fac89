/-
  Lemmas and contracts of single functions of this program, used by the proofs of its laws: what each call returns and what becomes of memory. Conditions: the hypotheses of each theorem.
-/
import Derived.Test.YtkgepklapglmdaaGreatDoorOwn
namespace Go.Proofs.YtkgepklapglmdaaGreatDoor
open Go.RowKit

/-- tuples of ints, flat in memory -/
def flatT (xss : List (List Int)) : List Value := xss.flatten.map (.int .i64)
/-- a slice value reads as a list of tuples of k ints each -/
def TS (w : World) (lo hi k : Nat) (v : Value) (xss : List (List Int)) : Prop :=
  ∃ A c, v = .slice A xss.length c ∧ xss.length ≤ c ∧ c ≤ maxLen ∧ Rd w lo hi k A xss.length (flatT xss) ∧ ∀ x ∈ xss, x.length = k ∧ ∀ y ∈ x, I64 y
theorem flat_len {k : Nat} : ∀ {xss : List (List Int)}, (∀ x ∈ xss, x.length = k) → xss.flatten.length = xss.length * k
  | [], _ => by simp
  | x :: t, h => by
    rw [List.flatten_cons, List.length_append, h x List.mem_cons_self, flat_len fun y hy => h y (List.mem_cons_of_mem _ hy), List.length_cons, Nat.succ_mul, Nat.add_comm]
theorem flatT_len {k : Nat} {xss : List (List Int)} (h : ∀ x ∈ xss, x.length = k) : (flatT xss).length = xss.length * k := by
  unfold flatT; rw [List.length_map, flat_len h]
theorem flat_get {k : Nat} : ∀ {xss : List (List Int)} {i j : Nat}, (∀ x ∈ xss, x.length = k) → i < xss.length → j < k → xss.flatten[i * k + j]? = some (gi (gr xss i) j)
  | [], i, j, _, hi, _ => absurd hi (by simp)
  | x :: t, 0, j, h, _, hj => by
    have hx := h x List.mem_cons_self
    rw [List.flatten_cons, Nat.zero_mul, Nat.zero_add, List.getElem?_append_left (by omega)]
    simp [gr, gi, hx, hj]
  | x :: t, i + 1, j, h, hi, hj => by
    have hx := h x List.mem_cons_self
    have e : (i + 1) * k + j = x.length + (i * k + j) := by rw [hx, Nat.succ_mul]; omega
    rw [List.flatten_cons, e, List.getElem?_append_right (by omega), Nat.add_sub_cancel_left, flat_get (fun y hy => h y (List.mem_cons_of_mem _ hy)) (by simpa using hi) hj]
    simp [gr]
theorem flatT_get {k : Nat} {xss : List (List Int)} {i j : Nat} (h : ∀ x ∈ xss, x.length = k) (hi : i < xss.length) (hj : j < k) : (flatT xss)[i * k + j]? = some (.int .i64 (gi (gr xss i) j)) := by
  unfold flatT; rw [List.getElem?_map, flat_get h hi hj]; rfl
theorem gr_mem {xss : List (List Int)} {i : Nat} (h : i < xss.length) : gr xss i ∈ xss := by rw [gr_eq h]; exact List.getElem_mem h
theorem TS.form {w : World} {lo hi k : Nat} {v : Value} {xss : List (List Int)} (h : TS w lo hi k v xss) : ∃ A c, v = .slice A xss.length c ∧ xss.length ≤ c ∧ c ≤ 2 ^ 63 - 1 := by
  obtain ⟨A, c, h1, h2, h3, _⟩ := h
  exact ⟨A, c, h1, h2, by unfold maxLen at h3; omega⟩
theorem TS.kept {w w' : World} {lo hi k : Nat} {v : Value} {xss : List (List Int)} (h : TS w lo hi k v xss) (hk : Kept lo hi w w') : TS w' lo hi k v xss := by
  obtain ⟨A, c, h1, h2, h3, h4, h5⟩ := h
  exact ⟨A, c, h1, h2, h3, h4.kept hk, h5⟩
theorem TS.wide {w : World} {lo hi lo' hi' k : Nat} {v : Value} {xss : List (List Int)} (h : TS w lo hi k v xss) (hl : lo' ≤ lo) (hh : hi ≤ hi') : TS w lo' hi' k v xss := by
  obtain ⟨A, c, h1, h2, h3, h4, h5⟩ := h
  exact ⟨A, c, h1, h2, h3, h4.wide hl hh, h5⟩
theorem TS.below {w w' : World} {B lo hi k : Nat} {v : Value} {xss : List (List Int)} (h : TS w lo hi k v xss) (hb : Below B w w') (hh : hi ≤ B) : TS w' lo hi k v xss := h.kept (.of_below hb hh)
theorem TS.qt {w w' : World} {lo hi k : Nat} {v : Value} {xss : List (List Int)} (h : TS w lo hi k v xss) (hq : Qt w w') : TS w' lo hi k v xss := h.kept (hq.kept _ _)
theorem TS.drewN {w : World} {lo hi k : Nat} {v : Value} {xss : List (List Int)} (h : TS w lo hi k v xss) (n : Nat) : TS (w.drewN n) lo hi k v xss := h
theorem TS.all {w : World} {lo hi k : Nat} {v : Value} {xss : List (List Int)} (h : TS w lo hi k v xss) : ∀ x ∈ xss, x.length = k ∧ ∀ y ∈ x, I64 y := by
  obtain ⟨_, _, _, _, _, _, h⟩ := h
  exact h
theorem TS.i64 {w : World} {lo hi k : Nat} {v : Value} {xss : List (List Int)} (h : TS w lo hi k v xss) {i : Nat} (hi' : i < xss.length) (j : Nat) : I64 (gi (gr xss i) j) := gi_i64 (h.all _ (gr_mem hi')).2 j
/-- one tuple, cell by cell -/
theorem TS.cell {w : World} {lo hi k n c : Nat} {A : Option Addr} {xss : List (List Int)} (h : TS w lo hi k (.slice A n c) xss) {i : Nat} (hi' : i < xss.length) (_h0 : 0 < k) :
    ∃ b o, A = some ⟨b, o, none⟩ ∧ lo ≤ b ∧ b < hi ∧ ∀ j, j < k → w.cell? ⟨b, o + (i * k + j), none⟩ = some (.int .i64 (gi (gr xss i) j)) := by
  obtain ⟨A', c', e, _, _, hr, hall⟩ := h
  obtain ⟨rfl, rfl, rfl⟩ : A = A' ∧ n = xss.length ∧ c = c' := by simpa using e
  obtain ⟨b, o, e1, h1, h2, h3⟩ := hr.2 (by omega)
  exact ⟨b, o, e1, h1, h2, fun j hj => h3 _ _ (flatT_get (fun x hx => (hall x hx).1) hi' hj)⟩
theorem TS.cell' {w : World} {lo hi k n c b o : Nat} {xss : List (List Int)} (h : TS w lo hi k (.slice (some ⟨b, o, none⟩) n c) xss) {i : Nat} (hi' : i < xss.length) (h0 : 0 < k) :
    ∀ j, j < k → w.cell? ⟨b, o + (i * k + j), none⟩ = some (.int .i64 (gi (gr xss i) j)) := by
  obtain ⟨b', o', e, _, _, hc⟩ := h.cell hi' h0
  simp only [Option.some.injEq, Addr.mk.injEq, and_true] at e
  obtain ⟨rfl, rfl⟩ := e
  exact hc
theorem TS.take {w : World} {lo hi k n c : Nat} {A : Option Addr} {xss : List (List Int)} (h : TS w lo hi k (.slice A n c) xss) {i : Nat} (hi' : i ≤ xss.length) : TS w lo hi k (.slice A i c) (xss.take i) := by
  obtain ⟨A', c', e, hc, hm, ⟨hl, hr⟩, hall⟩ := h
  obtain ⟨rfl, rfl, rfl⟩ : A = A' ∧ n = xss.length ∧ c = c' := by simpa using e
  have hli : (xss.take i).length = i := by rw [List.length_take]; omega
  have hall' : ∀ x ∈ xss.take i, x.length = k ∧ ∀ y ∈ x, I64 y := fun x hx => hall x (List.mem_of_mem_take hx)
  refine ⟨A, c, by rw [hli], by omega, hm, ⟨flatT_len fun x hx => (hall' x hx).1, fun h0 => ?_⟩, hall'⟩
  rw [hli] at h0
  obtain ⟨b, o, e1, h1, h2, h3⟩ := hr (by omega)
  refine ⟨b, o, e1, h1, h2, fun j u hu => h3 j u ?_⟩
  have e2 : xss.flatten = (xss.take i).flatten ++ (xss.drop i).flatten := by rw [← List.flatten_append, List.take_append_drop]
  unfold flatT at hu ⊢
  rw [e2, List.map_append]
  obtain ⟨hj, hv⟩ := List.getElem?_eq_some_iff.1 hu
  rw [List.getElem?_append_left hj]
  exact hu

/-- tuples that the call owns -/
def OwnT (w : World) (base e k : Nat) (v : Value) (xss : List (List Int)) : Prop := w.ownsRow base e k v xss.length (flatT xss) ∧ ∀ x ∈ xss, x.length = k ∧ ∀ y ∈ x, I64 y
theorem OwnT.ts {w : World} {base e k : Nat} {v : Value} {xss : List (List Int)} (h : OwnT w base e k v xss) : TS w base w.heap.size k v xss := by
  obtain ⟨⟨hl, hv⟩, hi⟩ := h
  rcases hv with ⟨rfl, hn⟩ | ⟨g, cap, cur, rfl, hb, hg, hc, hm, hs, ht⟩
  · have : xss = [] := List.eq_nil_of_length_eq_zero hn
    subst this
    exact ⟨none, 0, rfl, by simp, by simp [maxLen], ⟨by simp [flatT], fun h => absurd h (by simp)⟩, hi⟩
  · refine ⟨some ⟨g, 0, none⟩, cap, rfl, hc, hm, ⟨hl, fun _ => ⟨g, 0, rfl, hb, (Array.getElem?_eq_some_iff.1 hg).1, fun j u hu => ?_⟩⟩, hi⟩
    rw [Nat.zero_add, cell_of_row w g j cur e (0, 0) hg, ← Array.getElem?_toList]
    rw [← ht, List.getElem?_take] at hu
    split at hu
    · exact hu
    · cases hu
theorem OwnT.nil (w : World) (base e k : Nat) : OwnT w base e k (.slice none 0 0) [] := ⟨World.ownsRow_nil _ _ _ _, by simp⟩
theorem OwnT.empty (w : World) (base e k : Nat) (hb : base ≤ w.heap.size) : OwnT (w.alloc (.cells #[] e)) base e k (.slice (some ⟨w.heap.size, 0, none⟩) 0 0) [] := by
  refine ⟨⟨by simp [flatT], .inr ⟨w.heap.size, 0, _, rfl, hb, heap_alloc_new w _, Nat.le_refl _, by simp [maxLen], by simp, by simp [flatT]⟩⟩, by simp⟩
theorem OwnT.lt {w : World} {base e k : Nat} {v : Value} {xss : List (List Int)} (h : OwnT w base e k v xss) : ∀ g, v.ownBlock = some g → base ≤ g ∧ g < w.heap.size := h.1.lt
theorem OwnT.form {w : World} {base e k : Nat} {v : Value} {xss : List (List Int)} (h : OwnT w base e k v xss) : ∃ A c, v = .slice A xss.length c ∧ xss.length ≤ c ∧ c ≤ 2 ^ 63 - 1 := h.ts.form
theorem OwnT.kept {w w' : World} {base e k : Nat} {v : Value} {xss : List (List Int)} (h : OwnT w base e k v xss) (hk : Kept base w.heap.size w w') : OwnT w' base e k v xss := by
  refine ⟨⟨h.1.1, ?_⟩, h.2⟩
  rcases h.1.2 with hv | ⟨g, cap, cur, rfl, hb, hg, rest⟩
  · exact .inl hv
  · exact .inr ⟨g, cap, cur, rfl, hb, (hk g hb (Array.getElem?_eq_some_iff.1 hg).1).trans hg, rest⟩
theorem OwnT.keptBlock {w w' : World} {base e k : Nat} {v : Value} {xss : List (List Int)} (h : OwnT w base e k v xss) (hk : ∀ g, v.ownBlock = some g → w'.heap[g]? = w.heap[g]?) : OwnT w' base e k v xss := ⟨ownsRow_keptBlock h.1 hk, h.2⟩
theorem OwnT.base {w : World} {base base' e k : Nat} {v : Value} {xss : List (List Int)} (h : OwnT w base e k v xss) (hb : base' ≤ base) : OwnT w base' e k v xss := ⟨ownsRow_base h.1 hb, h.2⟩
theorem OwnT.ts_at {w : World} {base e s k : Nat} {v : Value} {xss : List (List Int)} (h : OwnT w base e k v xss) (hs : ∀ g, v.ownBlock = some g → g < s) : TS w base s k v xss := by
  obtain ⟨A, c, h1, h2, h3, h4, h5⟩ := h.ts
  refine ⟨A, c, h1, h2, h3, ⟨h4.1, fun hn => ?_⟩, h5⟩
  obtain ⟨b, o, e1, hl, _, hc⟩ := h4.2 hn
  exact ⟨b, o, e1, hl, hs b (by rw [h1, e1]; rfl), hc⟩
theorem flatT_append (a b : List (List Int)) : flatT (a ++ b) = flatT a ++ flatT b := by simp [flatT]
theorem flatT_one (y : List Int) : flatT [y] = y.map (.int .i64) := by simp [flatT]

/-- 'append(v, T{..})' of a tuple -/
theorem wpList_appendT {P : Program} {t e : TypeId} {z : Value} {k bytes : Nat} (S : SlT P t e z k bytes) {ops : Array Oper} {rest : List Oper} {o : Oper} {a : Act} {Q : Exit → Act → World → Prop} (w : World) (hgd : o.guard = none) (s x : Operand)
    (ho : o.op = .call { callee := .builtin .append, args := #[s, x], argTypes := #[t, t] }) (y : List Int) (cs : Array Value) (hcs : cs = (y.map (Value.int .i64)).toArray)
    (base : Nat) (v : Value) (xss : List (List Int)) (hs : a.eval s = v) (hx : a.eval x = .slice (some ⟨w.heap.size, 0, none⟩) 1 1) (hown : OwnT w base e k v xss) (hy : y.length = k ∧ ∀ n ∈ y, I64 n)
    (hn : (xss.length + 1) * bytes ≤ 140737488355328) (hn2 : xss.length ≤ 1099511627776) (hb : base ≤ w.heap.size)
    (h : ∀ v' w', OwnT w' base e k v' (xss ++ [y]) → Grew base v v' w w' → wpList P ops Q rest (a.put o.dst v') w') :
    wpList P ops Q (o :: rest) a (w.alloc (.cells cs e)) := by
  subst hcs
  refine wpList_append1 S w hgd s x ho _ base v xss.length (flatT xss) hs hx hown.1 (by simp [hy.1]) (by
    intro u hu
    simp only [List.mem_map] at hu
    obtain ⟨n, _, rfl⟩ := hu
    rfl) hn (by omega) hb fun v' w' k1 k2 k3 k4 => h v' w' ⟨?_, ?_⟩ ⟨k3, by omega, ?_⟩
  · rw [List.length_append, flatT_append, flatT_one]
    simpa using k1
  · intro z hz
    rcases List.mem_append.1 hz with hz | hz
    · exact hown.2 z hz
    · rw [List.mem_singleton.1 hz]; exact hy
  · intro g hg hne
    rw [k2.block g (by simp; omega) hne]
    exact Below.heap_alloc w _ g hg

theorem flat_set {k : Nat} : ∀ {xss : List (List Int)} {i j : Nat} {n : Int}, (∀ x ∈ xss, x.length = k) → i < xss.length → j < k → (set2 xss i j n).flatten = xss.flatten.set (i * k + j) n
  | [], i, j, _, _, hi, _ => absurd hi (by simp)
  | x :: t, 0, j, n, h, _, hj => by
    have hx := h x List.mem_cons_self
    simp only [set2, gr, List.getD_cons_zero, List.set_cons_zero, List.flatten_cons, Nat.zero_mul, Nat.zero_add]
    rw [List.set_append_left _ _ (by omega)]
  | x :: t, i + 1, j, n, h, hi, hj => by
    have hx := h x List.mem_cons_self
    have e : (i + 1) * k + j = x.length + (i * k + j) := by rw [hx, Nat.succ_mul]; omega
    have ih := flat_set (k := k) (xss := t) (i := i) (j := j) (n := n) (fun y hy => h y (List.mem_cons_of_mem _ hy)) (by simpa using hi) hj
    simp only [set2, gr, List.getD_cons_succ, List.set_cons_succ, List.flatten_cons] at ih ⊢
    rw [ih, e, List.set_append_right _ _ (by omega), Nat.add_sub_cancel_left]
theorem set2_all {k : Nat} {xss : List (List Int)} {i j : Nat} {n : Int} (h : ∀ x ∈ xss, x.length = k ∧ ∀ y ∈ x, I64 y) (hn : I64 n) : ∀ x ∈ set2 xss i j n, x.length = k ∧ ∀ y ∈ x, I64 y := by
  intro x hx
  unfold set2 at hx
  rcases List.mem_or_eq_of_mem_set hx with hx | rfl
  · exact h x hx
  · by_cases hi : i < xss.length
    · have h1 := h _ (gr_mem hi)
      refine ⟨by rw [List.length_set]; exact h1.1, fun y hy => ?_⟩
      rcases List.mem_or_eq_of_mem_set hy with hy | rfl
      · exact h1.2 y hy
      · exact hn
    · rw [List.set_eq_of_length_le (by omega)] at hx
      exact h _ hx
/-- one field of an owned tuple: what is there, and what a store does -/
theorem OwnT.at_ {w : World} {base e k n c : Nat} {A : Option Addr} {xss : List (List Int)} (h : OwnT w base e k (.slice A n c) xss) {i : Nat} (hi : i < xss.length) (h0 : 0 < k) :
    ∃ g, A = some ⟨g, 0, none⟩ ∧ base ≤ g ∧ g < w.heap.size ∧ (∀ j, j < k → w.cell? ⟨g, i * k + j, none⟩ = some (.int .i64 (gi (gr xss i) j))) ∧ (∀ j, w.frozen? ⟨g, i * k + j, none⟩ = false) ∧
      ∀ j y, j < k → I64 y → OwnT (w.setCell ⟨g, i * k + j, none⟩ (.int .i64 y)) base e k (.slice A n c) (set2 xss i j y) := by
  have hg : ∃ g, A = some ⟨g, 0, none⟩ := by
    rcases h.1.2 with ⟨e, h0⟩ | ⟨g, cap, cur, e, _⟩
    · omega
    · injection e with e1; exact ⟨g, e1⟩
  obtain ⟨g, rfl⟩ := hg
  have hn : n = xss.length := by
    obtain ⟨A, c', e1, _⟩ := h.form
    injection e1
  subst hn
  have hc := h.ts.cell' hi h0
  refine ⟨g, rfl, (h.lt g rfl).1, (h.lt g rfl).2, fun j hj => by have := hc j hj; rwa [Nat.zero_add] at this, fun j => h.1.frozenAt _, fun j y hj hy => ⟨?_, set2_all h.2 hy⟩⟩
  have h1 := (h.1.stored (i * k + j) (.int .i64 y)).1
  rw [set2_len]
  unfold flatT at h1 ⊢
  rw [flat_set (fun x hx => (h.2 x hx).1) hi hj, List.map_set]
  exact h1
theorem TS.c2 {w : World} {lo hi n c : Nat} {A : Option Addr} {xss : List (List Int)} (h : TS w lo hi 2 (.slice A n c) xss) {i : Nat} (hi' : i < xss.length) :
    ∃ b o, A = some ⟨b, o, none⟩ ∧ lo ≤ b ∧ b < hi ∧ w.cell? ⟨b, o + i * 2, none⟩ = some (.int .i64 (gi (gr xss i) 0)) ∧ w.cell? ⟨b, o + i * 2 + 1, none⟩ = some (.int .i64 (gi (gr xss i) 1)) := by
  obtain ⟨b, o, e, h1, h2, hc⟩ := h.cell hi' (by omega)
  exact ⟨b, o, e, h1, h2, by have := hc 0 (by omega); rwa [Nat.add_zero] at this, by have := hc 1 (by omega); rwa [← Nat.add_assoc] at this⟩
theorem TS.c4 {w : World} {lo hi n c : Nat} {A : Option Addr} {xss : List (List Int)} (h : TS w lo hi 4 (.slice A n c) xss) {i : Nat} (hi' : i < xss.length) :
    ∃ b o, A = some ⟨b, o, none⟩ ∧ lo ≤ b ∧ b < hi ∧ w.cell? ⟨b, o + i * 4, none⟩ = some (.int .i64 (gi (gr xss i) 0)) ∧ w.cell? ⟨b, o + i * 4 + 1, none⟩ = some (.int .i64 (gi (gr xss i) 1)) ∧ w.cell? ⟨b, o + i * 4 + 2, none⟩ = some (.int .i64 (gi (gr xss i) 2)) ∧ w.cell? ⟨b, o + i * 4 + 3, none⟩ = some (.int .i64 (gi (gr xss i) 3)) := by
  obtain ⟨b, o, e, h1, h2, hc⟩ := h.cell hi' (by omega)
  exact ⟨b, o, e, h1, h2, by have := hc 0 (by omega); rwa [Nat.add_zero] at this, by have := hc 1 (by omega); rwa [← Nat.add_assoc] at this, by have := hc 2 (by omega); rwa [← Nat.add_assoc] at this, by have := hc 3 (by omega); rwa [← Nat.add_assoc] at this⟩
theorem TS.c4' {w : World} {lo hi n c b o : Nat} {xss : List (List Int)} (h : TS w lo hi 4 (.slice (some ⟨b, o, none⟩) n c) xss) {i : Nat} (hi' : i < xss.length) :
    w.cell? ⟨b, o + i * 4, none⟩ = some (.int .i64 (gi (gr xss i) 0)) ∧ w.cell? ⟨b, o + i * 4 + 1, none⟩ = some (.int .i64 (gi (gr xss i) 1)) ∧ w.cell? ⟨b, o + i * 4 + 2, none⟩ = some (.int .i64 (gi (gr xss i) 2)) ∧ w.cell? ⟨b, o + i * 4 + 3, none⟩ = some (.int .i64 (gi (gr xss i) 3)) := by
  have hc := h.cell' hi' (by omega)
  exact ⟨by have := hc 0 (by omega); rwa [Nat.add_zero] at this, by have := hc 1 (by omega); rwa [← Nat.add_assoc] at this, by have := hc 2 (by omega); rwa [← Nat.add_assoc] at this, by have := hc 3 (by omega); rwa [← Nat.add_assoc] at this⟩
theorem TS.c5 {w : World} {lo hi n c : Nat} {A : Option Addr} {xss : List (List Int)} (h : TS w lo hi 5 (.slice A n c) xss) {i : Nat} (hi' : i < xss.length) :
    ∃ b o, A = some ⟨b, o, none⟩ ∧ lo ≤ b ∧ b < hi ∧ w.cell? ⟨b, o + i * 5, none⟩ = some (.int .i64 (gi (gr xss i) 0)) ∧ w.cell? ⟨b, o + i * 5 + 1, none⟩ = some (.int .i64 (gi (gr xss i) 1)) ∧ w.cell? ⟨b, o + i * 5 + 2, none⟩ = some (.int .i64 (gi (gr xss i) 2)) ∧ w.cell? ⟨b, o + i * 5 + 3, none⟩ = some (.int .i64 (gi (gr xss i) 3)) ∧ w.cell? ⟨b, o + i * 5 + 4, none⟩ = some (.int .i64 (gi (gr xss i) 4)) := by
  obtain ⟨b, o, e, h1, h2, hc⟩ := h.cell hi' (by omega)
  exact ⟨b, o, e, h1, h2, by have := hc 0 (by omega); rwa [Nat.add_zero] at this, by have := hc 1 (by omega); rwa [← Nat.add_assoc] at this, by have := hc 2 (by omega); rwa [← Nat.add_assoc] at this, by have := hc 3 (by omega); rwa [← Nat.add_assoc] at this, by have := hc 4 (by omega); rwa [← Nat.add_assoc] at this⟩
theorem TS.c7 {w : World} {lo hi n c : Nat} {A : Option Addr} {xss : List (List Int)} (h : TS w lo hi 7 (.slice A n c) xss) {i : Nat} (hi' : i < xss.length) :
    ∃ b o, A = some ⟨b, o, none⟩ ∧ lo ≤ b ∧ b < hi ∧ w.cell? ⟨b, o + i * 7, none⟩ = some (.int .i64 (gi (gr xss i) 0)) ∧ w.cell? ⟨b, o + i * 7 + 1, none⟩ = some (.int .i64 (gi (gr xss i) 1)) ∧ w.cell? ⟨b, o + i * 7 + 2, none⟩ = some (.int .i64 (gi (gr xss i) 2)) ∧ w.cell? ⟨b, o + i * 7 + 3, none⟩ = some (.int .i64 (gi (gr xss i) 3)) ∧ w.cell? ⟨b, o + i * 7 + 4, none⟩ = some (.int .i64 (gi (gr xss i) 4)) ∧ w.cell? ⟨b, o + i * 7 + 5, none⟩ = some (.int .i64 (gi (gr xss i) 5)) ∧ w.cell? ⟨b, o + i * 7 + 6, none⟩ = some (.int .i64 (gi (gr xss i) 6)) := by
  obtain ⟨b, o, e, h1, h2, hc⟩ := h.cell hi' (by omega)
  exact ⟨b, o, e, h1, h2, by have := hc 0 (by omega); rwa [Nat.add_zero] at this, by have := hc 1 (by omega); rwa [← Nat.add_assoc] at this, by have := hc 2 (by omega); rwa [← Nat.add_assoc] at this, by have := hc 3 (by omega); rwa [← Nat.add_assoc] at this, by have := hc 4 (by omega); rwa [← Nat.add_assoc] at this, by have := hc 5 (by omega); rwa [← Nat.add_assoc] at this, by have := hc 6 (by omega); rwa [← Nat.add_assoc] at this⟩
end Go.Proofs.YtkgepklapglmdaaGreatDoor
