/-
  Lemmas and contracts of single functions of this program, used by the proofs of its laws: what each call returns and what becomes of memory. Conditions: the hypotheses of each theorem.
-/
import Derived.Test.YtlabekemifccaaaDoorTxtP
import Derived.Test.YtlabekemifccaaaDoorDrawU
namespace Go.Proofs.YtlabekemifccaaaDoor
open Go.RowKit
attribute [local go_sem ↓] Go.wp_at_zero Go.wp_at_succ

/-! lists of texts in memory -/
def gs (xs : List (List UInt8)) (k : Nat) : List UInt8 := xs.getD k []
def sV (xs : List (List UInt8)) : List Value := xs.map fun x => Value.string (TB x)
def Strs (w : World) (lo hi : Nat) (v : Value) (xs : List (List UInt8)) : Prop :=
  ∃ A c, v = .slice A xs.length c ∧ xs.length ≤ c ∧ c ≤ maxLen ∧ Rd w lo hi 1 A xs.length (sV xs)
def OwnS (w : World) (base e : Nat) (v : Value) (xs : List (List UInt8)) : Prop := w.ownsRow base e 1 v xs.length (sV xs)
theorem gs_eq {xs : List (List UInt8)} {k : Nat} (h : k < xs.length) : gs xs k = xs[k] := by simp [gs, h]
theorem Strs.kept {w w' : World} {lo hi : Nat} {v : Value} {xs : List (List UInt8)} (h : Strs w lo hi v xs) (hk : Kept lo hi w w') : Strs w' lo hi v xs := by
  obtain ⟨A, c, h1, h2, h3, h4⟩ := h
  exact ⟨A, c, h1, h2, h3, h4.kept hk⟩
theorem Strs.below {w w' : World} {B lo hi : Nat} {v : Value} {xs : List (List UInt8)} (h : Strs w lo hi v xs) (hb : Below B w w') (hh : hi ≤ B) : Strs w' lo hi v xs := h.kept (.of_below hb hh)
theorem Strs.form {w : World} {lo hi : Nat} {v : Value} {xs : List (List UInt8)} (h : Strs w lo hi v xs) : ∃ A c, v = .slice A xs.length c ∧ xs.length ≤ c ∧ c ≤ 2 ^ 63 - 1 := by
  obtain ⟨A, c, h1, h2, h3, _⟩ := h
  exact ⟨A, c, h1, h2, by unfold maxLen at h3; omega⟩
theorem Strs.cell {w : World} {lo hi n c : Nat} {A : Option Addr} {xs : List (List UInt8)} (h : Strs w lo hi (.slice A n c) xs) {k : Nat} (hk : k < xs.length) :
    ∃ b o, A = some ⟨b, o, none⟩ ∧ lo ≤ b ∧ b < hi ∧ w.cell? ⟨b, o + k, none⟩ = some (.string (TB (gs xs k))) := by
  obtain ⟨A', c', e, _, _, hr⟩ := h
  obtain ⟨rfl, _, _⟩ : A = A' ∧ n = xs.length ∧ c = c' := by simpa using e
  obtain ⟨b, o, e1, h1, h2, h3⟩ := hr.2 (by omega)
  refine ⟨b, o, e1, h1, h2, h3 k _ ?_⟩
  simp [gs, sV, hk]
theorem Strs.cell' {w : World} {lo hi n c b o : Nat} {xs : List (List UInt8)} (h : Strs w lo hi (.slice (some ⟨b, o, none⟩) n c) xs) {k : Nat} (hk : k < xs.length) :
    w.cell? ⟨b, o + k, none⟩ = some (.string (TB (gs xs k))) := by
  obtain ⟨b', o', e, _, _, hc⟩ := h.cell hk
  simp only [Option.some.injEq, Addr.mk.injEq, and_true] at e
  obtain ⟨rfl, rfl⟩ := e
  exact hc
theorem OwnS.strs {w : World} {base e : Nat} {v : Value} {xs : List (List UInt8)} (h : OwnS w base e v xs) : Strs w base w.heap.size v xs := by
  obtain ⟨hl, hv⟩ := h
  rcases hv with ⟨rfl, hn⟩ | ⟨g, cap, cur, rfl, hb, hg, hc, hm, hs, ht⟩
  · have : xs = [] := List.eq_nil_of_length_eq_zero hn
    subst this
    exact ⟨none, 0, rfl, by simp, by simp [maxLen], ⟨by simp [sV], fun h => absurd h (by simp)⟩⟩
  · refine ⟨some ⟨g, 0, none⟩, cap, rfl, hc, hm, ⟨by simp [sV], fun _ => ⟨g, 0, rfl, hb, (Array.getElem?_eq_some_iff.1 hg).1, fun j u hu => ?_⟩⟩⟩
    rw [Nat.zero_add, cell_of_row w g j cur e (0, 0) hg, ← Array.getElem?_toList]
    rw [← ht, List.getElem?_take] at hu
    split at hu
    · exact hu
    · cases hu
theorem OwnS.empty (w : World) (base e : Nat) (hb : base ≤ w.heap.size) : OwnS (w.alloc (.cells #[] e)) base e (.slice (some ⟨w.heap.size, 0, none⟩) 0 0) [] :=
  World.ownsRow_made w #[] 0 hb (by simp [maxLen]) (by simp)
theorem OwnS.lt {w : World} {base e : Nat} {v : Value} {xs : List (List UInt8)} (h : OwnS w base e v xs) : ∀ g, v.ownBlock = some g → base ≤ g ∧ g < w.heap.size := World.ownsRow.lt h
theorem OwnS.form {w : World} {base e : Nat} {v : Value} {xs : List (List UInt8)} (h : OwnS w base e v xs) : ∃ A c, v = .slice A xs.length c ∧ xs.length ≤ c ∧ c ≤ 2 ^ 63 - 1 := h.strs.form
theorem OwnS.keptBlock {w w' : World} {base e : Nat} {v : Value} {xs : List (List UInt8)} (h : OwnS w base e v xs) (hk : ∀ g, v.ownBlock = some g → w'.heap[g]? = w.heap[g]?) : OwnS w' base e v xs := ownsRow_keptBlock h hk
theorem OwnS.kept {w w' : World} {base e : Nat} {v : Value} {xs : List (List UInt8)} (h : OwnS w base e v xs) (hk : Kept base w.heap.size w w') : OwnS w' base e v xs :=
  h.keptBlock fun g hg => hk g (h.lt g hg).1 (h.lt g hg).2
theorem OwnS.base {w : World} {base base' e : Nat} {v : Value} {xs : List (List UInt8)} (h : OwnS w base e v xs) (hb : base' ≤ base) : OwnS w base' e v xs := ownsRow_base h hb
theorem sV_append (a b : List (List UInt8)) : sV (a ++ b) = sV a ++ sV b := by simp [sV]
/-- 'append(v, x)' of texts -/
theorem wpList_appendS {P : Program} {t e : TypeId} {z : Value} {bytes : Nat} (S : SlT P t e z 1 bytes) {ops : Array Oper} {rest : List Oper} {o : Oper} {a : Act} {Q : Exit → Act → World → Prop} (w : World) (hgd : o.guard = none) (s x : Operand)
    (ho : o.op = .call { callee := .builtin .append, args := #[s, x], argTypes := #[t, t] }) (y : List UInt8) (u : Value) (hu : u = .string (TB y))
    (base : Nat) (v : Value) (xs : List (List UInt8)) (hs : a.eval s = v) (hx : a.eval x = .slice (some ⟨w.heap.size, 0, none⟩) 1 1) (hown : OwnS w base e v xs)
    (hn : (xs.length + 1) * bytes ≤ 140737488355328) (hn2 : xs.length ≤ 1099511627776) (hb : base ≤ w.heap.size)
    (h : ∀ v' w', OwnS w' base e v' (xs ++ [y]) → Grew base v v' w w' → wpList P ops Q rest (a.put o.dst v') w') :
    wpList P ops Q (o :: rest) a (w.alloc (.cells #[u] e)) := by
  subst hu
  refine wpList_append1 S w hgd s x ho _ base v xs.length (sV xs) hs hx hown rfl (by simp [Value.oneCell']) hn (by omega) hb fun v' w' k1 k2 k3 k4 => h v' w' ?_ ⟨k3, by omega, ?_⟩
  · unfold OwnS
    rw [List.length_append, sV_append]
    exact k1
  · intro g hg hne
    rw [k2.block g (by simp; omega) hne]
    exact Below.heap_alloc w _ g hg
theorem step_appendS {P : Program} {t e : TypeId} {z : Value} {bytes : Nat} (S : SlT P t e z 1 bytes) {ops : Array Oper} {o : Oper} {a : Act} {K : Act → World → Prop} {Q : Exit → Act → World → Prop} {E : Prop} (w : World) (hgd : o.guard = none) (s x : Operand)
    (ho : o.op = .call { callee := .builtin .append, args := #[s, x], argTypes := #[t, t] }) (y : List UInt8) (u : Value) (hu : u = .string (TB y))
    (base : Nat) (v : Value) (xs : List (List UInt8)) (hs : a.eval s = v) (hx : a.eval x = .slice (some ⟨w.heap.size, 0, none⟩) 1 1) (hown : OwnS w base e v xs)
    (hn : (xs.length + 1) * bytes ≤ 140737488355328) (hn2 : xs.length ≤ 1099511627776) (hb : base ≤ w.heap.size)
    (h : ∀ v' w', OwnS w' base e v' (xs ++ [y]) → Grew base v v' w w' → K (a.put o.dst v') w') :
    if Region.wanted o (yielded ops a.tmps) = true then Oper.wp P o a (w.alloc (.cells #[u] e)) K Q else E := by
  subst hu
  obtain ⟨i, hi, hz1, hz2, hz3⟩ := info_parts S.hi
  refine step_append_lies (w.alloc _) hgd s x t ho base e i _ 1 bytes S.ht hi hz1 hz2 hz3 S.hz S.hs v xs.length (sV xs) hs (World.ownsRow.alloc hown _) ⟨w.heap.size, 0, none⟩ 1 1 [.string (TB y)] hx (by simp)
    (fun j u hu => by have := cells_at_new (w := w) (e := e) (cs := #[Value.string (TB y)]) (j := j) (u := u) (by simpa using hu); exact this) (by simp [Value.oneCell']) (by omega) (by unfold maxLen; omega) hn (by simp; omega) _ rfl fun g cap w' k1 k2 _ _ => h _ w' ?_ ⟨?_, ?_, ?_⟩
  · unfold OwnS
    rw [List.length_append, sV_append]
    exact k1
  · exact ((Below.refl base w).alloc hb _).grown k2 (by simp; omega) fun k hk => (hown.lt k hk).1
  · have := k2.size; simp at this; omega
  · intro k hk hne
    rw [k2.block k (by simp; omega) hne]
    exact Below.heap_alloc w _ k hk
/-- memory that only grows keeps the world's shape -/
theorem shaped_below {P : Program} {w w' : World} (h : w.ShapedOpen P) (b : Below w.heap.size w w') : w'.ShapedOpen P := by
  have lt_of_some : ∀ {i : Nat} {o : Obj}, w.heap[i]? = some o → i < w.heap.size := fun {i o} ho => (Array.getElem?_eq_some_iff.1 ho).1
  have hshape : ∀ r x, w.shape? r = some x → w'.shape? r = some x := fun r x hx => by
    unfold World.shape? at hx ⊢
    cases hr : w.heap[r]? with
    | none => rw [hr] at hx; cases hx
    | some o => rw [b.block r (lt_of_some hr)]; exact hx
  refine ⟨fun g zero t hg hz => ?_, fun k hk1 hk2 => ?_⟩
  · obtain ⟨cs, h1, h2, h3⟩ := h.1 g zero t hg hz
    exact ⟨cs, (b.block g (lt_of_some h1)).trans h1, h2, fun hb => Row.ok_of_shape (fun r x hx => hshape r x hx) (h3 hb)⟩
  · obtain ⟨o, o₀, h1, h2, h3⟩ := h.2 k hk1 hk2
    exact ⟨o, o₀, (b.block k (lt_of_some h1)).trans h1, h2, h3⟩
/-- what strings.Split laid -/
theorem strs_made (w : World) (e : Nat) (xs : List (List UInt8)) (cs : Array Value) (hcs : cs.toList = sV xs) (hl : xs.length ≤ maxLen) (n : Nat) (hn : n = xs.length) : Strs (w.alloc (.cells cs e)) w.heap.size (w.heap.size + 1) (.slice (some ⟨w.heap.size, 0, none⟩) n n) xs := by
  subst hn
  refine ⟨_, _, rfl, Nat.le_refl _, hl, by simp [sV], fun _ => ⟨w.heap.size, 0, rfl, Nat.le_refl _, by omega, fun j u hu => ?_⟩⟩
  rw [Nat.zero_add, cell_of_row _ w.heap.size j cs e (0, 0) (heap_alloc_new w _), ← Array.getElem?_toList, hcs]
  exact hu
/-- strings.Split at a byte -/
theorem Split_any (c : UInt8) (l : List UInt8) (sep : ByteArray) (hsep : sep = TB [c]) (s : ByteArray) (hs : s = TB l) (w : World) (h : w.ShapedOpen Tryd.prog) (hl : l.length < 4294967281) :
    Calls Tryd.prog 42 #[.string s, .string sep] w fun e w' => ∃ v, e = .returned v ∧ Strs w' w.heap.size w'.heap.size v (splitC c [] l) ∧ Below w.heap.size w w' := by
  subst hsep hs
  refine (Tryd.strings_Split_shaped (TB l) (TB [c]) w h (by rw [TB_size]; exact hl) (by rw [TB_size]; exact Nat.le_refl _)).mono ?_
  rintro e w' ⟨rfl, rfl⟩
  have hlen := splitC_len c l []
  have hcl : l.count c ≤ l.length := List.count_le_length
  refine ⟨_, rfl, ?_, (Below.refl _ _).alloc (Nat.le_refl _) _⟩
  have hz : (w.alloc (.cells ((Lib.splitB (TB [c]) 0 (Lib.countB (TB l) (TB [c])) (TB l)).map Value.string).toArray 9)).heap.size = w.heap.size + 1 := by simp
  have := strs_made w 9 (splitC c [] l) ((Lib.splitB (TB [c]) 0 (Lib.countB (TB l) (TB [c])) (TB l)).map Value.string).toArray (by rw [List.toList_toArray]; exact splitB_C c l) (by unfold maxLen; omega) (Lib.countB (TB l) (TB [c]) + 1) (countB_C c l)
  rw [← hz] at this
  exact this
end Go.Proofs.YtlabekemifccaaaDoor
