/-
  Lemmas and contracts of single functions of this program, used by the proofs of its laws: what each call returns and what becomes of memory. Conditions: the hypotheses of each theorem.
-/
import Derived.WalkKit
import Derived.WalkSpells
import Derived.WalkLawsBesides
import Derived.Lib.Hide
import Derived.Deep.Draws
import Derived.OrdersHeld
namespace Go.Proofs.YtkgepklapglmdaaGreatDoor
open Go.RowKit

def I64 (x : Int) : Prop := -9223372036854775808 ≤ x ∧ x ≤ 9223372036854775807
/-- the k-th number of a list, the k-th list, the k-th value: closed to simp -/
def gi (xs : List Int) (k : Nat) : Int := xs.getD k 0
def gr (xss : List (List Int)) (k : Nat) : List Int := xss.getD k []
def gv (vs : List Value) (k : Nat) : Value := vs.getD k undef

theorem gi_eq {xs : List Int} {k : Nat} (h : k < xs.length) : gi xs k = xs[k] := by simp [gi, h]
theorem gr_eq {xs : List (List Int)} {k : Nat} (h : k < xs.length) : gr xs k = xs[k] := by simp [gr, h]
theorem drop_gi {xs : List Int} {k : Nat} (h : k < xs.length) : xs.drop k = gi xs k :: xs.drop (k + 1) := by rw [gi_eq h]; exact List.drop_eq_getElem_cons h
theorem drop_end {α : Type} {xs : List α} {k : Nat} (h : xs.length ≤ k) : xs.drop k = [] := List.drop_eq_nil_of_le h
theorem take_gi {xs : List Int} {k : Nat} (h : k < xs.length) : xs.take (k + 1) = xs.take k ++ [gi xs k] := by rw [gi_eq h]; exact List.take_succ_eq_append_getElem h
theorem take_gr {xs : List (List Int)} {k : Nat} (h : k < xs.length) : xs.take (k + 1) = xs.take k ++ [gr xs k] := by rw [gr_eq h]; exact List.take_succ_eq_append_getElem h

/-- n elements of sz cells each, read from blocks in lo .. hi-1 -/
def Rd (w : World) (lo hi sz : Nat) (A : Option Addr) (n : Nat) (cs : List Value) : Prop :=
  cs.length = n * sz ∧ (0 < n → ∃ b o, A = some ⟨b, o, none⟩ ∧ lo ≤ b ∧ b < hi ∧ ∀ j u, cs[j]? = some u → w.cell? ⟨b, o + j, none⟩ = some u)
/-- between block lo and block hi nothing turned -/
def Kept (lo hi : Nat) (w w' : World) : Prop := ∀ k, lo ≤ k → k < hi → w'.heap[k]? = w.heap[k]?

theorem Rd.kept {w w' : World} {lo hi sz : Nat} {A : Option Addr} {n : Nat} {cs : List Value} (h : Rd w lo hi sz A n cs)
    (hk : Kept lo hi w w') : Rd w' lo hi sz A n cs :=
  ⟨h.1, fun hn => by
    obtain ⟨b, o, e, hl, hh, hc⟩ := h.2 hn
    exact ⟨b, o, e, hl, hh, fun j u hu => (World.cell?_of_block (hk b hl hh)).trans (hc j u hu)⟩⟩
theorem Rd.wide {w : World} {lo hi lo' hi' sz : Nat} {A : Option Addr} {n : Nat} {cs : List Value} (h : Rd w lo hi sz A n cs) (hl : lo' ≤ lo) (hh : hi ≤ hi') : Rd w lo' hi' sz A n cs :=
  ⟨h.1, fun hn => by
    obtain ⟨b, o, e, h1, h2, hc⟩ := h.2 hn
    exact ⟨b, o, e, by omega, by omega, hc⟩⟩

def Ints (w : World) (lo hi : Nat) (v : Value) (xs : List Int) : Prop :=
  ∃ A c, v = .slice A xs.length c ∧ xs.length ≤ c ∧ c ≤ maxLen ∧ Rd w lo hi 1 A xs.length (xs.map (.int .i64)) ∧ ∀ x ∈ xs, I64 x

theorem Ints.at_ {w : World} {lo hi : Nat} {A : Option Addr} {xs : List Int} (h : Rd w lo hi 1 A xs.length (xs.map (.int .i64))) {k : Nat} (hk : k < xs.length) :
    ∃ b o, A = some ⟨b, o, none⟩ ∧ lo ≤ b ∧ b < hi ∧ w.cell? ⟨b, o + k, none⟩ = some (.int .i64 (gi xs k)) := by
  obtain ⟨b, o, e, hl, hh, hc⟩ := h.2 (by omega)
  refine ⟨b, o, e, hl, hh, hc k _ ?_⟩
  simp [gi, hk]
theorem Ints.kept {w w' : World} {lo hi : Nat} {v : Value} {xs : List Int} (h : Ints w lo hi v xs) (hk : Kept lo hi w w') : Ints w' lo hi v xs := by
  obtain ⟨A, c, h1, h2, h3, h4, h5⟩ := h
  exact ⟨A, c, h1, h2, h3, h4.kept hk, h5⟩
theorem Ints.wide {w : World} {lo hi lo' hi' : Nat} {v : Value} {xs : List Int} (h : Ints w lo hi v xs) (hl : lo' ≤ lo) (hh : hi ≤ hi') : Ints w lo' hi' v xs := by
  obtain ⟨A, c, h1, h2, h3, h4, h5⟩ := h
  exact ⟨A, c, h1, h2, h3, h4.wide hl hh, h5⟩
theorem gi_i64 {xs : List Int} (h : ∀ x ∈ xs, I64 x) (k : Nat) : I64 (gi xs k) := by
  unfold gi
  by_cases hk : k < xs.length
  · rw [List.getD_eq_getElem?_getD, List.getElem?_eq_getElem hk]; exact h _ (List.getElem_mem hk)
  · rw [List.getD_eq_getElem?_getD, List.getElem?_eq_none (by omega)]; exact ⟨by simp, by simp⟩
theorem Kept.of_below {B lo hi : Nat} {w w' : World} (h : Below B w w') (hh : hi ≤ B) : Kept lo hi w w' := fun k _ hk => h.block k (by omega)
theorem Kept.refl (lo hi : Nat) (w : World) : Kept lo hi w w := fun _ _ _ => rfl
theorem Ints.below {w w' : World} {B lo hi : Nat} {v : Value} {xs : List Int} (h : Ints w lo hi v xs) (hb : Below B w w') (hh : hi ≤ B) : Ints w' lo hi v xs := h.kept (.of_below hb hh)

/-- slices of slices of ints -/
def IRows (w : World) (lo hi : Nat) (v : Value) (xss : List (List Int)) : Prop :=
  ∃ A c vs, v = .slice A xss.length c ∧ xss.length ≤ c ∧ c ≤ maxLen ∧ Rd w lo hi 1 A xss.length vs ∧ ∀ k, k < xss.length → Ints w lo hi (gv vs k) (gr xss k)
theorem IRows.at_ {w : World} {lo hi : Nat} {A : Option Addr} {n : Nat} {vs : List Value} (h : Rd w lo hi 1 A n vs) {k : Nat} (hk : k < n) :
    ∃ b o, A = some ⟨b, o, none⟩ ∧ lo ≤ b ∧ b < hi ∧ w.cell? ⟨b, o + k, none⟩ = some (gv vs k) := by
  obtain ⟨b, o, e, hl, hh, hc⟩ := h.2 (by omega)
  refine ⟨b, o, e, hl, hh, hc k _ ?_⟩
  have := h.1
  have hk' : k < vs.length := by omega
  simp [gv, hk']
theorem IRows.kept {w w' : World} {lo hi : Nat} {v : Value} {xss : List (List Int)} (h : IRows w lo hi v xss) (hk : Kept lo hi w w') : IRows w' lo hi v xss := by
  obtain ⟨A, c, vs, h1, h2, h3, h4, h5⟩ := h
  exact ⟨A, c, vs, h1, h2, h3, h4.kept hk, fun k hl => (h5 k hl).kept hk⟩
theorem IRows.wide {w : World} {lo hi lo' hi' : Nat} {v : Value} {xss : List (List Int)} (h : IRows w lo hi v xss) (hl : lo' ≤ lo) (hh : hi ≤ hi') : IRows w lo' hi' v xss := by
  obtain ⟨A, c, vs, h1, h2, h3, h4, h5⟩ := h
  exact ⟨A, c, vs, h1, h2, h3, h4.wide hl hh, fun k hk => (h5 k hk).wide hl hh⟩
theorem IRows.below {w w' : World} {B lo hi : Nat} {v : Value} {xss : List (List Int)} (h : IRows w lo hi v xss) (hb : Below B w w') (hh : hi ≤ B) : IRows w' lo hi v xss := h.kept (.of_below hb hh)

theorem Kept.cell {lo hi : Nat} {w w' : World} (h : Kept lo hi w w') {a : Addr} {u : Value} (h1 : lo ≤ a.block) (h2 : a.block < hi) (hc : w.cell? a = some u) : w'.cell? a = some u :=
  (World.cell?_of_block (h a.block h1 h2)).trans hc
theorem Kept.mono {lo hi lo' hi' : Nat} {w w' : World} (h : Kept lo hi w w') (h1 : lo ≤ lo') (h2 : hi' ≤ hi) : Kept lo' hi' w w' := fun k a b => h k (by omega) (by omega)
theorem Kept.trans {lo hi : Nat} {a b c : World} (h : Kept lo hi a b) (k : Kept lo hi b c) : Kept lo hi a c := fun i x y => (k i x y).trans (h i x y)
theorem Ints.form {w : World} {lo hi : Nat} {v : Value} {xs : List Int} (h : Ints w lo hi v xs) : ∃ A c, v = .slice A xs.length c ∧ xs.length ≤ c ∧ c ≤ 2 ^ 63 - 1 := by
  obtain ⟨A, c, h1, h2, h3, _⟩ := h
  exact ⟨A, c, h1, h2, by unfold maxLen at h3; omega⟩
theorem Ints.i64 {w : World} {lo hi : Nat} {v : Value} {xs : List Int} (h : Ints w lo hi v xs) : ∀ x ∈ xs, I64 x := by
  obtain ⟨_, _, _, _, _, _, h⟩ := h
  exact h
theorem Ints.cell {w : World} {lo hi n c : Nat} {A : Option Addr} {xs : List Int} (h : Ints w lo hi (.slice A n c) xs) {k : Nat} (hk : k < xs.length) :
    ∃ b o, A = some ⟨b, o, none⟩ ∧ lo ≤ b ∧ b < hi ∧ w.cell? ⟨b, o + k, none⟩ = some (.int .i64 (gi xs k)) ∧ I64 (gi xs k) := by
  obtain ⟨A', c', e, _, _, hr, h64⟩ := h
  obtain ⟨rfl, _, _⟩ : A = A' ∧ n = xs.length ∧ c = c' := by simpa using e
  obtain ⟨b, o, e1, h1, h2, h3⟩ := Ints.at_ hr hk
  refine ⟨b, o, e1, h1, h2, h3, ?_⟩
  rw [gi_eq hk]; exact h64 _ (List.getElem_mem hk)
theorem Ints.cell' {w : World} {lo hi n c b o : Nat} {xs : List Int} (h : Ints w lo hi (.slice (some ⟨b, o, none⟩) n c) xs) {k : Nat} (hk : k < xs.length) :
    w.cell? ⟨b, o + k, none⟩ = some (.int .i64 (gi xs k)) := by
  obtain ⟨b', o', e, _, _, hc, _⟩ := h.cell hk
  simp only [Option.some.injEq, Addr.mk.injEq, and_true] at e
  obtain ⟨rfl, rfl⟩ := e
  exact hc
theorem IRows.form {w : World} {lo hi : Nat} {v : Value} {p : List (List Int)} (h : IRows w lo hi v p) : ∃ A c, v = .slice A p.length c ∧ p.length ≤ c ∧ c ≤ 2 ^ 63 - 1 := by
  obtain ⟨A, c, _, h1, h2, h3, _⟩ := h
  exact ⟨A, c, h1, h2, by unfold maxLen at h3; omega⟩
theorem IRows.row {w : World} {lo hi n c : Nat} {A : Option Addr} {p : List (List Int)} (h : IRows w lo hi (.slice A n c) p) {r : Nat} (hr : r < p.length) :
    ∃ b o Ai ci, A = some ⟨b, o, none⟩ ∧ lo ≤ b ∧ b < hi ∧ w.cell? ⟨b, o + r, none⟩ = some (.slice Ai (gr p r).length ci) ∧ (gr p r).length ≤ ci ∧ ci ≤ 2 ^ 63 - 1 ∧ Ints w lo hi (.slice Ai (gr p r).length ci) (gr p r) := by
  obtain ⟨A', c', vs, e, _, _, hrd, hrow⟩ := h
  obtain ⟨rfl, _, _⟩ : A = A' ∧ n = p.length ∧ c = c' := by simpa using e
  obtain ⟨b, o, e1, h1, h2, h3⟩ := IRows.at_ hrd hr
  have hi := hrow r hr
  obtain ⟨Ai, ci, hv, hci, hmi⟩ := hi.form
  rw [hv] at h3 hi
  exact ⟨b, o, Ai, ci, e1, h1, h2, h3, hci, hmi, hi⟩
/-- ints that the call owns -/
def OwnI (w : World) (base e : Nat) (v : Value) (xs : List Int) : Prop := w.ownsRow base e 1 v xs.length (xs.map (.int .i64)) ∧ ∀ x ∈ xs, I64 x
theorem OwnI.ints {w : World} {base e : Nat} {v : Value} {xs : List Int} (h : OwnI w base e v xs) : Ints w base w.heap.size v xs := by
  obtain ⟨⟨hl, hv⟩, hi⟩ := h
  rcases hv with ⟨rfl, hn⟩ | ⟨g, cap, cur, rfl, hb, hg, hc, hm, hs, ht⟩
  · have : xs = [] := List.eq_nil_of_length_eq_zero hn
    subst this
    exact ⟨none, 0, rfl, by simp, by simp [maxLen], ⟨by simp, fun h => absurd h (by simp)⟩, by simp⟩
  · refine ⟨some ⟨g, 0, none⟩, cap, rfl, hc, hm, ⟨by simp, fun _ => ⟨g, 0, rfl, hb, (Array.getElem?_eq_some_iff.1 hg).1, fun j u hu => ?_⟩⟩, hi⟩
    rw [Nat.zero_add, cell_of_row w g j cur e (0, 0) hg, ← Array.getElem?_toList]
    rw [← ht, List.getElem?_take] at hu
    split at hu
    · exact hu
    · cases hu
theorem OwnI.nil (w : World) (base e : Nat) : OwnI w base e (.slice none 0 0) [] := ⟨World.ownsRow_nil _ _ _ _, by simp⟩
theorem OwnI.empty (w : World) (base e : Nat) (hb : base ≤ w.heap.size) : OwnI (w.alloc (.cells #[] e)) base e (.slice (some ⟨w.heap.size, 0, none⟩) 0 0) [] :=
  ⟨World.ownsRow_made w #[] 0 hb (by simp [maxLen]) (by simp), by simp⟩
theorem OwnI.alloc {w : World} {base e : Nat} {v : Value} {xs : List Int} (h : OwnI w base e v xs) (o : Obj) : OwnI (w.alloc o) base e v xs := ⟨h.1.alloc o, h.2⟩
theorem OwnI.drew {w : World} {base e : Nat} {v : Value} {xs : List Int} (h : OwnI w base e v xs) : OwnI w.drew base e v xs := ⟨h.1.drew, h.2⟩
theorem OwnI.lt {w : World} {base e : Nat} {v : Value} {xs : List Int} (h : OwnI w base e v xs) : ∀ k, v.ownBlock = some k → base ≤ k ∧ k < w.heap.size := h.1.lt
theorem OwnI.form {w : World} {base e : Nat} {v : Value} {xs : List Int} (h : OwnI w base e v xs) : ∃ A c, v = .slice A xs.length c ∧ xs.length ≤ c ∧ c ≤ maxLen := by
  obtain ⟨A, c, h1, h2, h3, _⟩ := h.ints
  exact ⟨A, c, h1, h2, h3⟩
/-- whatever keeps the blocks from base on but writes elsewhere -/
theorem OwnI.kept {w w' : World} {base e : Nat} {v : Value} {xs : List Int} (h : OwnI w base e v xs) (hk : Kept base w.heap.size w w') : OwnI w' base e v xs := by
  refine ⟨⟨h.1.1, ?_⟩, h.2⟩
  rcases h.1.2 with hv | ⟨g, cap, cur, rfl, hb, hg, rest⟩
  · exact .inl hv
  · exact .inr ⟨g, cap, cur, rfl, hb, (hk g hb (Array.getElem?_eq_some_iff.1 hg).1).trans hg, rest⟩
theorem OwnI.base {w : World} {base base' e : Nat} {v : Value} {xs : List Int} (h : OwnI w base e v xs) (hb : base' ≤ base) : OwnI w base' e v xs := by
  refine ⟨⟨h.1.1, ?_⟩, h.2⟩
  rcases h.1.2 with hv | ⟨g, cap, cur, rfl, hbb, hg, rest⟩
  · exact .inl hv
  · exact .inr ⟨g, cap, cur, rfl, by omega, hg, rest⟩

/-- what the table says of a slice type and its elements -/
structure SlT (P : Program) (t e : TypeId) (z : Value) (size bytes : Nat) : Prop where
  ht : P.underlying t = some (.slice e)
  hi : (P.info? e).map (fun i => (i.zero, i.size, i.bytes)) = some (some z, size, bytes)
  hz : z.cells.size = size
  hs : 0 < size

theorem cells_at_new {w : World} {cs : Array Value} {e : TypeId} {j : Nat} {u : Value} (h : cs.toList[j]? = some u) : (w.alloc (.cells cs e)).cell? ((⟨w.heap.size, 0, none⟩ : Addr).add j) = some u := by
  have hadd : (⟨w.heap.size, 0, none⟩ : Addr).add j = ⟨w.heap.size, j, none⟩ := by unfold Addr.add; split <;> simp_all
  rw [hadd, cell_of_row _ w.heap.size j cs e (0, 0) (heap_alloc_new w _)]
  simpa using h

/-- 'append(v, x)': x lies in the block that has just been laid -/
theorem wpList_append1 {P : Program} {t e : TypeId} {z : Value} {size bytes : Nat} (S : SlT P t e z size bytes) {ops : Array Oper} {rest : List Oper} {o : Oper} {a : Act} {Q : Exit → Act → World → Prop} (w : World) (hgd : o.guard = none) (s x : Operand)
    (ho : o.op = .call { callee := .builtin .append, args := #[s, x], argTypes := #[t, t] }) (cs : Array Value)
    (base : Nat) (v : Value) (n : Nat) (xs : List Value) (hs : a.eval s = v) (hx : a.eval x = .slice (some ⟨w.heap.size, 0, none⟩) 1 1) (hown : w.ownsRow base e size v n xs)
    (hcs : cs.size = size) (h1 : ∀ u ∈ cs.toList, u.oneCell' = true) (hn : (n + 1) * bytes ≤ 140737488355328) (hn2 : n + 1 ≤ 140737488355328) (hb : base ≤ w.heap.size)
    (h : ∀ v' w', w'.ownsRow base e size v' (n + 1) (xs ++ cs.toList) → (w.alloc (.cells cs e)).grownBy w' v.ownBlock → Below base w w' → w.heap.size + 1 ≤ w'.heap.size → wpList P ops Q rest (a.put o.dst v') w') :
    wpList P ops Q (o :: rest) a (w.alloc (.cells cs e)) := by
  obtain ⟨i, hi, hz1, hz2, hz3⟩ := info_parts S.hi
  refine wpList_append_own (w.alloc (.cells cs e)) hgd s x t ho base e i z size bytes S.ht hi hz1 hz2 hz3 S.hz S.hs v n xs hs (hown.alloc _) ⟨w.heap.size, 0, none⟩ 1 1 cs.toList hx (by simp [hcs])
    (fun j u hu => cells_at_new hu) h1 (by unfold maxLen; omega) hn (by simp; omega) fun v' w' k1 k2 _ => h v' w' k1 k2 ?_ (by have := k2.size; simpa using this)
  exact ((Below.refl base w).alloc hb _).grown k2 (by simp; omega) fun k hk => (hown.lt k hk).1

/-- behind an append onto v: what else lay from base on, in other blocks than v's, is kept -/
structure Grew (base : Nat) (v v' : Value) (w w' : World) : Prop where
  below : Below base w w'
  size : w.heap.size ≤ w'.heap.size
  other : ∀ k, k < w.heap.size → some k ≠ v.ownBlock → w'.heap[k]? = w.heap[k]?

/-- 'append(v, x)' of a list of ints -/
theorem wpList_appendI {P : Program} {t e : TypeId} (S : SlT P t e (.int .i64 0) 1 8) {ops : Array Oper} {rest : List Oper} {o : Oper} {a : Act} {Q : Exit → Act → World → Prop} (w : World) (hgd : o.guard = none) (s x : Operand)
    (ho : o.op = .call { callee := .builtin .append, args := #[s, x], argTypes := #[t, t] }) (y : Int)
    (base : Nat) (v : Value) (xs : List Int) (hs : a.eval s = v) (hx : a.eval x = .slice (some ⟨w.heap.size, 0, none⟩) 1 1) (hown : OwnI w base e v xs) (hy : I64 y)
    (hn : xs.length ≤ 1099511627776) (hb : base ≤ w.heap.size)
    (h : ∀ v' w', OwnI w' base e v' (xs ++ [y]) → Grew base v v' w w' → wpList P ops Q rest (a.put o.dst v') w') :
    wpList P ops Q (o :: rest) a (w.alloc (.cells #[.int .i64 y] e)) := by
  refine wpList_append1 S w hgd s x ho #[.int .i64 y] base v xs.length (xs.map (.int .i64)) hs hx hown.1 rfl (by simp [Value.oneCell']) (by omega) (by omega) hb fun v' w' k1 k2 k3 k4 => h v' w' ⟨?_, ?_⟩ ⟨k3, by omega, ?_⟩
  · simpa using k1
  · intro z hz
    rcases List.mem_append.1 hz with hz | hz
    · exact hown.2 z hz
    · rw [List.mem_singleton.1 hz]; exact hy
  · intro k hk hne
    rw [k2.block k (by simp; omega) hne]
    exact Below.heap_alloc w _ k hk

theorem bne_f {a b : Int} (h : a = b) : (a != b) = false := by simp [h]
theorem bne_t {a b : Int} (h : a ≠ b) : (a != b) = true := by simp [h]
theorem beq_t {a b : Int} (h : a = b) : (a == b) = true := by simp [h]
theorem beq_f {a b : Int} (h : a ≠ b) : (a == b) = false := by simp [h]
theorem ret_int {k : IntKind} {a b : Int} (h : a = b) : Ending.returned (.int k a) = .returned (.int k b) := by rw [h]
theorem ret_bool {a b : Bool} (h : a = b) : Ending.returned (.bool a) = .returned (.bool b) := by rw [h]

-- small functions on lists, closed to simp
def inR (lo hi n : Int) : Bool := decide (lo ≤ n) && decide (n ≤ hi)
theorem inR_true {lo hi n : Int} (h : inR lo hi n = true) : lo ≤ n ∧ n ≤ hi := by unfold inR at h; simpa using h
theorem inR_mk {lo hi n : Int} (h : lo ≤ n ∧ n ≤ hi) : inR lo hi n = true := by unfold inR; simp [h]
theorem inR_no {lo hi n : Int} (h : ¬ (lo ≤ n ∧ n ≤ hi)) : inR lo hi n = false := by unfold inR; simp; omega

def plcFrom : List Int → Int → Nat → Int
  | [], _, _ => -1
  | x :: t, n, k => if x = n then k else plcFrom t n (k + 1)
def plc (xs : List Int) (n : Int) : Int := plcFrom xs n 0
def inL (xs : List Int) (n : Int) : Bool := xs.any (· == n)
theorem inL_cons (x : Int) (t : List Int) (n : Int) : inL (x :: t) n = ((x == n) || inL t n) := by simp [inL]
/-- only draws -/
def Qt (w w' : World) : Prop := ∃ n, w' = w.drewN n
theorem Qt.refl (w : World) : Qt w w := ⟨0, rfl⟩
theorem Qt.one (w : World) (n : Nat) : Qt w (w.drewN n) := ⟨n, rfl⟩
theorem Qt.two (w : World) (n m : Nat) : Qt w ((w.drewN n).drewN m) := ⟨n + m, World.drewN_drewN w n m⟩
theorem Qt.trans {a b c : World} (h : Qt a b) (k : Qt b c) : Qt a c := by
  obtain ⟨n, rfl⟩ := h; obtain ⟨m, rfl⟩ := k; exact Qt.two _ _ _
theorem Qt.below {w w' : World} (h : Qt w w') (B : Nat) : Below B w w' := by
  obtain ⟨n, rfl⟩ := h; exact ⟨rfl, rfl, rfl, Nat.le_refl _, fun _ _ => rfl⟩
/-- a contract that ends in draws, inside a region that draws its order -/
theorem Qt.call {P : Program} {f : FuncId} {args : Array Value} {w : World} {n : Nat} {v : Value}
    (h : Calls P f args (w.drewN n) fun e w' => e = .returned v ∧ Qt (w.drewN n) w') : Calls P f args (w.drewN n) fun e w'' => e = .returned v ∧ ∃ m, w'' = w.drewN m :=
  h.mono fun _ _ ⟨he, hm⟩ => ⟨he, by obtain ⟨m, rfl⟩ := hm; exact ⟨n + m, World.drewN_drewN w n m⟩⟩
theorem Qt.kept {w w' : World} (h : Qt w w') (lo hi : Nat) : Kept lo hi w w' := by obtain ⟨n, rfl⟩ := h; exact fun _ _ _ => rfl
theorem Rd.qt {w w' : World} {lo hi sz : Nat} {A : Option Addr} {n : Nat} {cs : List Value} (h : Rd w lo hi sz A n cs) (hq : Qt w w') : Rd w' lo hi sz A n cs := h.kept (hq.kept _ _)
theorem Ints.qt {w w' : World} {lo hi : Nat} {v : Value} {xs : List Int} (h : Ints w lo hi v xs) (hq : Qt w w') : Ints w' lo hi v xs := h.kept (hq.kept _ _)
theorem IRows.qt {w w' : World} {lo hi : Nat} {v : Value} {xs : List (List Int)} (h : IRows w lo hi v xs) (hq : Qt w w') : IRows w' lo hi v xs := h.kept (hq.kept _ _)
theorem Ints.drewN {w : World} {lo hi : Nat} {v : Value} {xs : List Int} (h : Ints w lo hi v xs) (n : Nat) : Ints (w.drewN n) lo hi v xs := h
theorem IRows.drewN {w : World} {lo hi : Nat} {v : Value} {xs : List (List Int)} (h : IRows w lo hi v xs) (n : Nat) : IRows (w.drewN n) lo hi v xs := h

def tot (xss : List (List Int)) : Nat := (xss.map List.length).sum
/-- what every step of a region proves alike, in one Bool -/
def tkB (md : Region.Mode) (ops : Array Oper) (listed : Array Bool) (i : Nat) (oi : Oper) (tmps : Array Value) : Bool := Region.noSelect ops && Region.free md ops listed i && (Region.ready md ops listed).contains i && Region.wanted oi (yielded ops tmps)
/-- an operation of a region is taken: wpAnyH_take in short -/
theorem tkW {P : Program} {md : Region.Mode} {ops : Array Oper} {Q : Exit → Act → World → Prop} {S : World → Prop} {oi : Oper} {v : Value} {fuel : Nat} {listed : Array Bool} {a : Act} {w : World} (i s : Nat) (hi : ops[i]? = some oi) (hd : oi.dst = some s)
    (hb : tkB md ops listed i oi a.tmps = true) (hS : S w) (hv : ∀ w, S w → (execOp a.eval oi).run P w = .ok (.value v) w) (h : wpAnyH P md ops Q S fuel (listed.setIfInBounds i true) (a.put (some s) v) w)
    (hQ : ∀ c a w, Q (.panic c) (a.put (some s) v) w → Q (.panic c) a w) : wpAnyH P md ops Q S (fuel + 1) listed a w := by
  unfold tkB at hb
  rw [Bool.and_eq_true, Bool.and_eq_true, Bool.and_eq_true] at hb
  exact wpAnyH_take hi hb.1.1.1 hb.1.1.2 hb.1.2 (by rw [hd]; exact hQ) (Or.inl ⟨hb.2, hv⟩) hS (by rw [hd]; exact h)
theorem lyA {α : Type _} {l : List α} {i : Nat} {a : α} : l.toArray.setIfInBounds i a = (l.set i a).toArray := by simp only [List.setIfInBounds_toArray]
theorem lyB {α : Type _} {x y : α} {l : List α} : (x :: l).set 0 y = y :: l := List.set_cons_zero
theorem lyC {α : Type _} {x y : α} {l : List α} {i : Nat} : (x :: l).set (i + 1) y = x :: l.set i y := List.set_cons_succ
end Go.Proofs.YtkgepklapglmdaaGreatDoor
