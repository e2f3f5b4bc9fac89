/-
  Texts merged into one: what each function does, and plain lemmas. No condition.
-/
import Derived.Test.YtkgepklapglmdaaGreatDoorMillB
import Derived.Test.YtkgepklapglmdaaGreatDoorMillP
import Derived.Maps.AppendAt
namespace Go.Proofs.YtkgepklapglmdaaGreatDoor
open Go.RowKit

theorem flatT_oneCell (xss : List (List Int)) : ∀ u ∈ flatT xss, u.oneCell' = true := by
  intro u hu
  unfold flatT at hu
  obtain ⟨n, _, rfl⟩ := List.mem_map.1 hu
  rfl
/-- 'append(v, u...)' of tuples -/
theorem wpList_appendTs {P : Program} {t e : TypeId} {z : Value} {k bytes : Nat} (S : SlT P t e z k bytes) {ops : Array Oper} {rest : List Oper} {o : Oper} {a : Act} {Q : Exit → Act → World → Prop} (w : World) (hgd : o.guard = none) (s x : Operand)
    (ho : o.op = .call { callee := .builtin .append, args := #[s, x], argTypes := #[t, t] }) (lo hi : Nat) (u : Value)
    (base : Nat) (v : Value) (xs ys : List (List Int)) (hs : a.eval s = v) (hx : a.eval x = u) (hown : OwnT w base e k v xs) (hsrc : TS w lo hi k u ys)
    (hn : (xs.length + ys.length) * bytes ≤ 140737488355328) (hn2 : xs.length + ys.length ≤ 1099511627776) (hb : base ≤ w.heap.size)
    (h : ∀ v' w', OwnT w' base e k v' (xs ++ ys) → Grew base v v' w w' → wpList P ops Q rest (a.put o.dst v') w') :
    wpList P ops Q (o :: rest) a w := by
  obtain ⟨A, c, rfl, hc, hm, hr, hall⟩ := hsrc
  refine wpList_append_many S w hgd s x ho lo hi A ys.length c base v xs.length (flatT xs) (flatT ys) hs hx hown.1 hr (flatT_oneCell _) hn (by omega) hb fun v' w' k1 k2 k3 => h v' w' ⟨by rw [List.length_append, flatT_append]; exact k1, ?_⟩ ⟨k3, k2.size, k2.block⟩
  intro y hy
  rcases List.mem_append.1 hy with hy | hy
  · exact hown.2 y hy
  · exact hall y hy
theorem es5_app {cs ds : List Value} {k : Nat} {e : Ent} {d p : Value} (h : Es5 cs k e d p) : Es5 (cs ++ ds) k e d p := by
  obtain ⟨h0, h1, h2, h3, h4⟩ := h
  have key : ∀ {j : Nat} {u : Value}, cs[j]? = some u → (cs ++ ds)[j]? = some u := fun hj => by
    rw [List.getElem?_append_left (List.getElem?_eq_some_iff.1 hj).1]; exact hj
  exact ⟨key h0, key h1, key h2, key h3, key h4⟩
theorem es5_last {cs : List Value} {n : Nat} (hl : cs.length = n * 5) (f : Ent) (d p : Value) : Es5 (cs ++ [.int .i64 f.lb, .int .i64 f.W, .int .i64 f.L, d, p]) n f d p := by
  refine ⟨?_, ?_, ?_, ?_, ?_⟩ <;> rw [List.getElem?_append_right (by omega)]
  · rw [show n * 5 - cs.length = 0 by omega]; rfl
  · rw [show n * 5 + 1 - cs.length = 1 by omega]; rfl
  · rw [show n * 5 + 2 - cs.length = 2 by omega]; rfl
  · rw [show n * 5 + 3 - cs.length = 3 by omega]; rfl
  · rw [show n * 5 + 4 - cs.length = 4 by omega]; rfl
/-- 'append(v, e)' of an entry whose slices were made behind block s0 -/
theorem wpList_appendE {P : Program} {t e : TypeId} {z : Value} (S : SlT P t e z 5 72) {ops : Array Oper} {rest : List Oper} {o : Oper} {a : Act} {Q : Exit → Act → World → Prop} (w : World) (hgd : o.guard = none) (s x : Operand)
    (ho : o.op = .call { callee := .builtin .append, args := #[s, x], argTypes := #[t, t] }) (f : Ent) (d p : Value) (base s0 tD tP : Nat) (v : Value) (es : List Ent) (hs : a.eval s = v) (hx : a.eval x = .slice (some ⟨w.heap.size, 0, none⟩) 1 1)
    (hown : OwnE w base s0 e tD tP v es) (hD : e ≠ tD) (hP : e ≠ tP) (hf : E64 f) (hd : OwnT w s0 tD 5 d f.ds) (hp : OwnT w s0 tP 4 p f.ps) (hb : base ≤ s0) (hs0 : s0 ≤ w.heap.size) (hn : es.length ≤ 1000000)
    (h : ∀ v' w', OwnE w' base w'.heap.size e tD tP v' (es ++ [f]) → Grew base v v' w w' → wpList P ops Q rest (a.put o.dst v') w') :
    wpList P ops Q (o :: rest) a (w.alloc (.cells #[.int .i64 f.lb, .int .i64 f.W, .int .i64 f.L, d, p] e)) := by
  obtain ⟨cs, vd, vp, h1, h2, h3, h4⟩ := hown
  obtain ⟨Ad, cd, rfl, _⟩ := hd.form
  obtain ⟨Ap, cp, rfl, _⟩ := hp.form
  refine wpList_append1 S w hgd s x ho _ base v es.length cs hs hx h1 (by simp) (by
    intro u hu
    simp only [List.mem_cons, List.not_mem_nil, or_false] at hu
    rcases hu with rfl | rfl | rfl | rfl | rfl <;> rfl) (by omega) (by omega) (by omega) fun v' w' k1 k2 k3 k4 => h v' w' ?_ ⟨k3, by omega, fun g hg hne => by rw [k2.block g (by simp; omega) hne]; exact Below.heap_alloc w _ g hg⟩
  have kold : ∀ g, g < w.heap.size → some g ≠ v.ownBlock → w'.heap[g]? = w.heap[g]? := fun g hg hne => by rw [k2.block g (by simp; omega) hne]; exact Below.heap_alloc w _ g hg
  have far : ∀ (u : Value) (t' k : Nat) (xs : List (List Int)) (b : Nat), OwnT w b t' k u xs → e ≠ t' → OwnT w' b t' k u xs := fun u t' k xs b hu hne =>
    hu.keptBlock fun g hg => kold g (hu.lt g hg).2 fun e1 => own_types h1 hu.1 hne e1.symm hg
  have hz := k2.size
  have hz' : w.heap.size + 1 ≤ w'.heap.size := k4
  refine ⟨_, fun k => if k < es.length then vd k else .slice Ad f.ds.length cd, fun k => if k < es.length then vp k else .slice Ap f.ps.length cp, by rw [List.length_append, List.length_singleton]; simpa using k1, fun g hg => (k1.lt g hg).2, fun k hk => ?_, fun j k hjk hk => ?_⟩
  · rw [List.length_append, List.length_singleton] at hk
    by_cases hlt : k < es.length
    · obtain ⟨a1, a2, a3, a4⟩ := h3 k hlt
      simp only [if_pos hlt]
      rw [ge_app hlt]
      exact ⟨a1, es5_app a2, ⟨far _ _ _ _ _ a3.1 hD, fun g hg => by have := a3.2 g hg; omega⟩, ⟨far _ _ _ _ _ a4.1 hP, fun g hg => by have := a4.2 g hg; omega⟩⟩
    · have hke : k = es.length := by omega
      subst hke
      simp only [if_neg hlt]
      rw [ge_last]
      exact ⟨hf, es5_last h1.1 f _ _, ⟨(far _ _ _ _ _ hd hD).base hb, fun g hg => by have := (hd.lt g hg).2; omega⟩, ⟨(far _ _ _ _ _ hp hP).base hb, fun g hg => by have := (hp.lt g hg).2; omega⟩⟩
  · rw [List.length_append, List.length_singleton] at hk
    have hj : j < es.length := by omega
    simp only [if_pos hj]
    by_cases hlt : k < es.length
    · simp only [if_pos hlt]
      exact h4 j k hjk hlt
    · simp only [if_neg hlt]
      have oj := h3 j hj
      exact ⟨fun g a b => by have := oj.2.2.1.2 g a; have := (hd.lt g b).1; omega, fun g a b => by have := oj.2.2.2.2 g a; have := (hp.lt g b).1; omega⟩
/-- the defects of one entry, and what becomes of the whole when a new list takes their place -/
theorem OwnE.dsAt {w : World} {base s tE tD tP n c : Nat} {A : Option Addr} {es : List Ent} {i : Nat} (h : OwnE w base s tE tD tP (.slice A n c) es) (hi : i < es.length) (hD : tE ≠ tD) (hP : tE ≠ tP) (hDP : tD ≠ tP) :
    ∃ g Ad cd, A = some ⟨g, 0, none⟩ ∧ base ≤ g ∧ g < s ∧ w.cell? ⟨g, i * 5 + 3, none⟩ = some (.slice Ad (ge es i).ds.length cd) ∧ w.frozen? ⟨g, i * 5 + 3, none⟩ = false ∧ OwnT w base tD 5 (.slice Ad (ge es i).ds.length cd) (ge es i).ds ∧
      (∀ b, (Value.slice Ad (ge es i).ds.length cd).ownBlock = some b → b < s ∧ ¬ g = b) ∧
      ∀ w1 d' ds' s', OwnT w1 base tD 5 d' ds' → (∀ q, q < w.heap.size → some q ≠ (Value.slice Ad (ge es i).ds.length cd).ownBlock → w1.heap[q]? = w.heap[q]?) → (∀ q, d'.ownBlock = some q → ((Value.slice Ad (ge es i).ds.length cd).ownBlock = some q ∨ s ≤ q) ∧ q < s') → s ≤ s' →
        OwnE (w1.setCell ⟨g, i * 5 + 3, none⟩ d') base s' tE tD tP (.slice A n c) (es.set i { ge es i with ds := ds' }) := by
  obtain ⟨cs, vd, vp, h1, h2, h3, h4⟩ := h
  have hg : ∃ g, A = some ⟨g, 0, none⟩ := by
    have hcl := h1.1
    rcases h1.2 with ⟨e, h0⟩ | ⟨g, cap, cur, e, _⟩
    · omega
    · injection e with e1; exact ⟨g, e1⟩
  obtain ⟨g, rfl⟩ := hg
  have hn : n = es.length := by
    rcases h1.2 with ⟨e, h0⟩ | ⟨g', cap, cur, e, _⟩
    · exact absurd e (by simp)
    · injection e
  subst hn
  have hcl := h1.1
  have hlt := h1.lt g rfl
  obtain ⟨i64, i5, iD, iP⟩ := h3 i hi
  obtain ⟨Ad, cd, hv, _⟩ := (iD).1.form
  have hcell : w.cell? ⟨g, i * 5 + 3, none⟩ = some (vd i) := by
    rw [h1.cellAt (i * 5 + 3) (by omega)]; exact i5.2.2.2.1
  refine ⟨g, Ad, cd, rfl, hlt.1, h2 g rfl, by rw [hcell, hv], h1.frozenAt _, by rw [← hv]; exact (iD).1, fun b hb => by
    rw [← hv] at hb
    exact ⟨(iD).2 b hb, fun e => own_types h1 (iD).1.1 hD (g := g) rfl (by rw [e]; exact hb)⟩, fun w1 d' ds' s' hd' hk hb hs => ?_⟩
  rw [← hv] at hk hb
  have kmain : w1.heap[g]? = w.heap[g]? := hk g hlt.2 fun e => own_types h1 (iD).1.1 hD (g := g) rfl e.symm
  have m1 := ownsRow_keptBlock h1 (fun g' hg' => by
    have : g' = g := by simpa [Value.ownBlock] using hg'.symm
    subst this; exact kmain)
  have m2 := (m1.stored (i * 5 + 3) d').1
  have far : ∀ (u : Value) (t k : Nat) (xs : List (List Int)) (b : Nat), OwnT w1 b t k u xs → tE ≠ t → OwnT (w1.setCell ⟨g, i * 5 + 3, none⟩ d') b t k u xs := by
    intro u t k xs b hu hne
    refine hu.keptBlock fun g' hg' => ?_
    have : ¬ g = g' := fun e => by
      subst e
      exact own_types m1 hu.1 hne (g := g) rfl hg'
    simp only [World.setCell, Array.getElem?_modify, if_neg this]
  have kD : ∀ k, k < es.length → k ≠ i → OwnT w1 base tD 5 (vd k) (ge es k).ds := fun k hkl hki => (h3 k hkl).2.2.1.1.keptBlock fun q hq => hk q ((h3 k hkl).2.2.1.1.lt q hq).2 fun e => by
    rcases Nat.lt_or_gt_of_ne hki with hl | hl
    · exact (h4 k i hl hi).1 q hq e.symm
    · exact (h4 i k hl hkl).1 q e.symm hq
  have kP : ∀ k, k < es.length → OwnT w1 base tP 4 (vp k) (ge es k).ps := fun k hkl => (h3 k hkl).2.2.2.1.keptBlock fun q hq => hk q ((h3 k hkl).2.2.2.1.lt q hq).2 fun e => own_types (iD).1.1 (h3 k hkl).2.2.2.1.1 hDP (g := q) e.symm hq
  refine ⟨_, fun k => if i = k then d' else vd k, vp, by rw [List.length_set]; simpa using m2, fun g' hg' => Nat.lt_of_lt_of_le (h2 g' hg') hs, fun k hkl => ?_, fun j k hjk hkl => ?_⟩
  · rw [List.length_set] at hkl
    obtain ⟨a1, ⟨b0, b1, b2, b3, b4⟩, a3, a4⟩ := h3 k hkl
    rw [ge_set hi]
    by_cases e : i = k
    · subst e
      simp only [if_true]
      refine ⟨a1, ⟨?_, ?_, ?_, ?_, ?_⟩, ⟨far _ _ _ _ _ hd' hD, fun q hq => (hb q hq).2⟩, ⟨far _ _ _ _ _ (kP i hi) hP, fun q hq => Nat.lt_of_lt_of_le (a4.2 q hq) hs⟩⟩
      · rw [List.getElem?_set_ne (by omega)]; exact b0
      · rw [List.getElem?_set_ne (by omega)]; exact b1
      · rw [List.getElem?_set_ne (by omega)]; exact b2
      · rw [List.getElem?_set_self (by omega)]
      · rw [List.getElem?_set_ne (by omega)]; exact b4
    · simp only [if_neg e]
      refine ⟨a1, ⟨?_, ?_, ?_, ?_, ?_⟩, ⟨far _ _ _ _ _ (kD k hkl (Ne.symm e)) hD, fun q hq => Nat.lt_of_lt_of_le (a3.2 q hq) hs⟩, ⟨far _ _ _ _ _ (kP k hkl) hP, fun q hq => Nat.lt_of_lt_of_le (a4.2 q hq) hs⟩⟩
      all_goals
        rw [List.getElem?_set_ne (by omega)]
        assumption
  · rw [List.length_set] at hkl
    have hold := h4 j k hjk hkl
    refine ⟨?_, hold.2⟩
    intro q a b
    by_cases ej : i = j
    · have ek : ¬ i = k := by omega
      simp only [if_pos ej] at a
      simp only [if_neg ek] at b
      rcases (hb q a).1 with h9 | h9
      · subst ej; exact hold.1 q h9 b
      · have := (h3 k hkl).2.2.1.2 q b; omega
    · simp only [if_neg ej] at a
      by_cases ek : i = k
      · simp only [if_pos ek] at b
        rcases (hb q b).1 with h9 | h9
        · subst ek; exact hold.1 q a h9
        · have := (h3 j (by omega)).2.2.1.2 q a; omega
      · simp only [if_neg ek] at b
        exact hold.1 q a b
/-- the cuts of one entry, and what becomes of the whole when a new list takes their place -/
theorem OwnE.psAt {w : World} {base s tE tD tP n c : Nat} {A : Option Addr} {es : List Ent} {i : Nat} (h : OwnE w base s tE tD tP (.slice A n c) es) (hi : i < es.length) (hD : tE ≠ tD) (hP : tE ≠ tP) (hDP : tD ≠ tP) :
    ∃ g Ad cd, A = some ⟨g, 0, none⟩ ∧ base ≤ g ∧ g < s ∧ w.cell? ⟨g, i * 5 + 4, none⟩ = some (.slice Ad (ge es i).ps.length cd) ∧ w.frozen? ⟨g, i * 5 + 4, none⟩ = false ∧ OwnT w base tP 4 (.slice Ad (ge es i).ps.length cd) (ge es i).ps ∧
      (∀ b, (Value.slice Ad (ge es i).ps.length cd).ownBlock = some b → b < s ∧ ¬ g = b) ∧
      ∀ w1 d' ds' s', OwnT w1 base tP 4 d' ds' → (∀ q, q < w.heap.size → some q ≠ (Value.slice Ad (ge es i).ps.length cd).ownBlock → w1.heap[q]? = w.heap[q]?) → (∀ q, d'.ownBlock = some q → ((Value.slice Ad (ge es i).ps.length cd).ownBlock = some q ∨ s ≤ q) ∧ q < s') → s ≤ s' →
        OwnE (w1.setCell ⟨g, i * 5 + 4, none⟩ d') base s' tE tD tP (.slice A n c) (es.set i { ge es i with ps := ds' }) := by
  obtain ⟨cs, vd, vp, h1, h2, h3, h4⟩ := h
  have hg : ∃ g, A = some ⟨g, 0, none⟩ := by
    have hcl := h1.1
    rcases h1.2 with ⟨e, h0⟩ | ⟨g, cap, cur, e, _⟩
    · omega
    · injection e with e1; exact ⟨g, e1⟩
  obtain ⟨g, rfl⟩ := hg
  have hn : n = es.length := by
    rcases h1.2 with ⟨e, h0⟩ | ⟨g', cap, cur, e, _⟩
    · exact absurd e (by simp)
    · injection e
  subst hn
  have hcl := h1.1
  have hlt := h1.lt g rfl
  obtain ⟨i64, i5, iD, iP⟩ := h3 i hi
  obtain ⟨Ad, cd, hv, _⟩ := (iP).1.form
  have hcell : w.cell? ⟨g, i * 5 + 4, none⟩ = some (vp i) := by
    rw [h1.cellAt (i * 5 + 4) (by omega)]; exact i5.2.2.2.2
  refine ⟨g, Ad, cd, rfl, hlt.1, h2 g rfl, by rw [hcell, hv], h1.frozenAt _, by rw [← hv]; exact (iP).1, fun b hb => by
    rw [← hv] at hb
    exact ⟨(iP).2 b hb, fun e => own_types h1 (iP).1.1 hP (g := g) rfl (by rw [e]; exact hb)⟩, fun w1 d' ds' s' hd' hk hb hs => ?_⟩
  rw [← hv] at hk hb
  have kmain : w1.heap[g]? = w.heap[g]? := hk g hlt.2 fun e => own_types h1 (iP).1.1 hP (g := g) rfl e.symm
  have m1 := ownsRow_keptBlock h1 (fun g' hg' => by
    have : g' = g := by simpa [Value.ownBlock] using hg'.symm
    subst this; exact kmain)
  have m2 := (m1.stored (i * 5 + 4) d').1
  have far : ∀ (u : Value) (t k : Nat) (xs : List (List Int)) (b : Nat), OwnT w1 b t k u xs → tE ≠ t → OwnT (w1.setCell ⟨g, i * 5 + 4, none⟩ d') b t k u xs := by
    intro u t k xs b hu hne
    refine hu.keptBlock fun g' hg' => ?_
    have : ¬ g = g' := fun e => by
      subst e
      exact own_types m1 hu.1 hne (g := g) rfl hg'
    simp only [World.setCell, Array.getElem?_modify, if_neg this]
  have kD : ∀ k, k < es.length → k ≠ i → OwnT w1 base tP 4 (vp k) (ge es k).ps := fun k hkl hki => (h3 k hkl).2.2.2.1.keptBlock fun q hq => hk q ((h3 k hkl).2.2.2.1.lt q hq).2 fun e => by
    rcases Nat.lt_or_gt_of_ne hki with hl | hl
    · exact (h4 k i hl hi).2 q hq e.symm
    · exact (h4 i k hl hkl).2 q e.symm hq
  have kP : ∀ k, k < es.length → OwnT w1 base tD 5 (vd k) (ge es k).ds := fun k hkl => (h3 k hkl).2.2.1.1.keptBlock fun q hq => hk q ((h3 k hkl).2.2.1.1.lt q hq).2 fun e => own_types (iP).1.1 (h3 k hkl).2.2.1.1.1 (Ne.symm hDP) (g := q) e.symm hq
  refine ⟨_, vd, fun k => if i = k then d' else vp k, by rw [List.length_set]; simpa using m2, fun g' hg' => Nat.lt_of_lt_of_le (h2 g' hg') hs, fun k hkl => ?_, fun j k hjk hkl => ?_⟩
  · rw [List.length_set] at hkl
    obtain ⟨a1, ⟨b0, b1, b2, b3, b4⟩, a3, a4⟩ := h3 k hkl
    rw [ge_set hi]
    by_cases e : i = k
    · subst e
      simp only [if_true]
      refine ⟨a1, ⟨?_, ?_, ?_, ?_, ?_⟩, ⟨far _ _ _ _ _ (kP i hi) hD, fun q hq => Nat.lt_of_lt_of_le (a3.2 q hq) hs⟩, ⟨far _ _ _ _ _ hd' hP, fun q hq => (hb q hq).2⟩⟩
      · rw [List.getElem?_set_ne (by omega)]; exact b0
      · rw [List.getElem?_set_ne (by omega)]; exact b1
      · rw [List.getElem?_set_ne (by omega)]; exact b2
      · rw [List.getElem?_set_ne (by omega)]; exact b3
      · rw [List.getElem?_set_self (by omega)]
    · simp only [if_neg e]
      refine ⟨a1, ⟨?_, ?_, ?_, ?_, ?_⟩, ⟨far _ _ _ _ _ (kP k hkl) hD, fun q hq => Nat.lt_of_lt_of_le (a3.2 q hq) hs⟩, ⟨far _ _ _ _ _ (kD k hkl (Ne.symm e)) hP, fun q hq => Nat.lt_of_lt_of_le (a4.2 q hq) hs⟩⟩
      all_goals
        rw [List.getElem?_set_ne (by omega)]
        assumption
  · rw [List.length_set] at hkl
    have hold := h4 j k hjk hkl
    refine ⟨hold.1, ?_⟩
    intro q a b
    by_cases ej : i = j
    · have ek : ¬ i = k := by omega
      simp only [if_pos ej] at a
      simp only [if_neg ek] at b
      rcases (hb q a).1 with h9 | h9
      · subst ej; exact hold.2 q h9 b
      · have := (h3 k hkl).2.2.2.2 q b; omega
    · simp only [if_neg ej] at a
      by_cases ek : i = k
      · simp only [if_pos ek] at b
        rcases (hb q b).1 with h9 | h9
        · subst ek; exact hold.2 q a h9
        · have := (h3 j (by omega)).2.2.2.2 q a; omega
      · simp only [if_neg ek] at b
        exact hold.2 q a b
/-- an owned row of entries whose slices are read elsewhere (lo .. hi-1, below the row) -/
def OwnX (w : World) (base lo hi tE : Nat) (v : Value) (es : List Ent) : Prop :=
  ∃ (cs : List Value) (vd vp : Nat → Value), w.ownsRow base tE 5 v es.length cs ∧ ∀ k, k < es.length → E64 (ge es k) ∧ Es5 cs k (ge es k) (vd k) (vp k) ∧ TS w lo hi 5 (vd k) (ge es k).ds ∧ TS w lo hi 4 (vp k) (ge es k).ps
theorem OwnX.nil (w : World) (base lo hi tE : Nat) : OwnX w base lo hi tE (.slice none 0 0) [] := ⟨[], fun _ => undef, fun _ => undef, World.ownsRow_nil _ _ _ _, fun k h => absurd h (by simp)⟩
theorem OwnX.empty (w : World) (base lo hi e : Nat) (hb : base ≤ w.heap.size) : OwnX (w.alloc (.cells #[] e)) base lo hi e (.slice (some ⟨w.heap.size, 0, none⟩) 0 0) [] :=
  ⟨[], fun _ => undef, fun _ => undef, ⟨by simp, .inr ⟨w.heap.size, 0, _, rfl, hb, heap_alloc_new w _, Nat.le_refl _, by simp [maxLen], by simp, by simp⟩⟩, fun k h => absurd h (by simp)⟩
theorem OwnX.kept {w w' : World} {base lo hi tE : Nat} {v : Value} {es : List Ent} (h : OwnX w base lo hi tE v es) (hk : Kept base w.heap.size w w') (hk2 : Kept lo hi w w') : OwnX w' base lo hi tE v es := by
  obtain ⟨cs, vd, vp, h1, h2⟩ := h
  refine ⟨cs, vd, vp, ownsRow_keptBlock h1 fun g hg => hk g (h1.lt g hg).1 (h1.lt g hg).2, fun k hkl => ?_⟩
  obtain ⟨a, b, c, d⟩ := h2 k hkl
  exact ⟨a, b, c.kept hk2, d.kept hk2⟩
theorem OwnX.es {w : World} {base lo hi tE : Nat} {v : Value} {es : List Ent} (h : OwnX w base lo hi tE v es) (hl : lo ≤ base) (hh : hi ≤ w.heap.size) : ES w lo w.heap.size v es := by
  obtain ⟨cs, vd, vp, ⟨hcl, hv⟩, hx⟩ := h
  rcases hv with ⟨rfl, hn⟩ | ⟨g, cap, cur, rfl, hb, hg, hc, hm, hsz, ht⟩
  · have : es = [] := List.eq_nil_of_length_eq_zero hn
    subst this
    exact ⟨none, 0, cs, rfl, by simp, by simp [maxLen], ⟨hcl, fun h => absurd h (by simp)⟩, fun k hk => absurd hk (by simp)⟩
  · refine ⟨some ⟨g, 0, none⟩, cap, cs, rfl, hc, hm, ⟨hcl, fun _ => ⟨g, 0, rfl, by omega, (Array.getElem?_eq_some_iff.1 hg).1, fun j u hu => ?_⟩⟩, fun k hk => ?_⟩
    · rw [Nat.zero_add, cell_of_row w g j cur tE (0, 0) hg, ← Array.getElem?_toList]
      rw [← ht, List.getElem?_take] at hu
      split at hu
      · exact hu
      · cases hu
    · obtain ⟨h1, h2, h3, h4⟩ := hx k hk
      exact ⟨h1, vd k, vp k, h2, h3.wide (Nat.le_refl _) hh, h4.wide (Nat.le_refl _) hh⟩
theorem OwnX.form {w : World} {base lo hi tE : Nat} {v : Value} {es : List Ent} (h : OwnX w base lo hi tE v es) : ∃ A c, v = .slice A es.length c ∧ es.length ≤ c ∧ c ≤ 2 ^ 63 - 1 := by
  obtain ⟨cs, vd, vp, ⟨hcl, hv⟩, hx⟩ := h
  rcases hv with ⟨rfl, hn⟩ | ⟨g, cap, cur, rfl, hb, hg, hc, hm, hsz, ht⟩
  · exact ⟨none, 0, by rw [hn], by omega, by omega⟩
  · exact ⟨some ⟨g, 0, none⟩, cap, rfl, hc, by unfold maxLen at hm; omega⟩
theorem ge_app2 {es fs : List Ent} {k : Nat} (h : es.length ≤ k) : ge (es ++ fs) k = ge fs (k - es.length) := by
  unfold ge; rw [List.getD_eq_getElem?_getD, List.getD_eq_getElem?_getD, List.getElem?_append_right h]
theorem es5_app2 {cs ds : List Value} {n k : Nat} {e : Ent} {d p : Value} (hl : cs.length = n * 5) (hk : n ≤ k) (h : Es5 ds (k - n) e d p) : Es5 (cs ++ ds) k e d p := by
  obtain ⟨h0, h1, h2, h3, h4⟩ := h
  refine ⟨?_, ?_, ?_, ?_, ?_⟩ <;> rw [List.getElem?_append_right (by omega)]
  · rw [show k * 5 - cs.length = (k - n) * 5 by omega]; exact h0
  · rw [show k * 5 + 1 - cs.length = (k - n) * 5 + 1 by omega]; exact h1
  · rw [show k * 5 + 2 - cs.length = (k - n) * 5 + 2 by omega]; exact h2
  · rw [show k * 5 + 3 - cs.length = (k - n) * 5 + 3 by omega]; exact h3
  · rw [show k * 5 + 4 - cs.length = (k - n) * 5 + 4 by omega]; exact h4
theorem es5_take {cs : List Value} {m k : Nat} {e : Ent} {d p : Value} (h : Es5 cs k e d p) (hk : k < m) : Es5 (cs.take (m * 5)) k e d p := by
  obtain ⟨h0, h1, h2, h3, h4⟩ := h
  refine ⟨?_, ?_, ?_, ?_, ?_⟩ <;> rw [List.getElem?_take, if_pos (by omega)] <;> assumption
theorem es5_drop {cs : List Value} {m k : Nat} {e : Ent} {d p : Value} (h : Es5 cs (m + k) e d p) : Es5 (cs.drop (m * 5)) k e d p := by
  obtain ⟨h0, h1, h2, h3, h4⟩ := h
  refine ⟨?_, ?_, ?_, ?_, ?_⟩ <;> rw [List.getElem?_drop]
  · rw [show m * 5 + k * 5 = (m + k) * 5 by omega]; exact h0
  · rw [show m * 5 + (k * 5 + 1) = (m + k) * 5 + 1 by omega]; exact h1
  · rw [show m * 5 + (k * 5 + 2) = (m + k) * 5 + 2 by omega]; exact h2
  · rw [show m * 5 + (k * 5 + 3) = (m + k) * 5 + 3 by omega]; exact h3
  · rw [show m * 5 + (k * 5 + 4) = (m + k) * 5 + 4 by omega]; exact h4
theorem ge_take {es : List Ent} {m k : Nat} (h : k < m) : ge (es.take m) k = ge es k := by
  unfold ge; rw [List.getD_eq_getElem?_getD, List.getD_eq_getElem?_getD, List.getElem?_take, if_pos h]
theorem ge_drop {es : List Ent} {m k : Nat} : ge (es.drop m) k = ge es (m + k) := by
  unfold ge; rw [List.getD_eq_getElem?_getD, List.getD_eq_getElem?_getD, List.getElem?_drop]
/-- the first m entries; the entries from m on -/
theorem ES.take {w : World} {lo hi n c : Nat} {A : Option Addr} {es : List Ent} (h : ES w lo hi (.slice A n c) es) {m : Nat} (hm : m ≤ es.length) : ES w lo hi (.slice A m c) (es.take m) := by
  obtain ⟨A', c', cs, e, h1, h2, hr, hx⟩ := h
  injection e with e1 e2 e3
  subst e1; subst e3
  have hl : (es.take m).length = m := by rw [List.length_take]; omega
  have hcl := hr.1
  refine ⟨A, c, cs.take (m * 5), by rw [hl], by omega, h2, ⟨by rw [hl, List.length_take]; omega, fun h0 => ?_⟩, fun k hk => ?_⟩
  · obtain ⟨b, o, e, hlb, hhb, hc⟩ := hr.2 (by omega)
    refine ⟨b, o, e, hlb, hhb, fun j u hu => hc j u ?_⟩
    rw [List.getElem?_take] at hu
    split at hu
    · exact hu
    · cases hu
  · rw [hl] at hk
    obtain ⟨a, d, p, h5, h6, h7⟩ := hx k (by omega)
    rw [ge_take hk]
    exact ⟨a, d, p, es5_take h5 hk, h6, h7⟩
theorem ES.drop {w : World} {lo hi n c b o : Nat} {es : List Ent} (h : ES w lo hi (.slice (some ⟨b, o, none⟩) n c) es) {m : Nat} (hm : m ≤ es.length) : ES w lo hi (.slice (some ⟨b, o + m * 5, none⟩) (es.length - m) (c - m)) (es.drop m) := by
  obtain ⟨A', c', cs, e, h1, h2, hr, hx⟩ := h
  injection e with e1 e2 e3
  subst e1; subst e3
  have hcl := hr.1
  refine ⟨_, c - m, cs.drop (m * 5), by rw [List.length_drop], by rw [List.length_drop]; omega, by omega, ⟨by rw [List.length_drop, List.length_drop]; omega, fun h0 => ?_⟩, fun k hk => ?_⟩
  · rw [List.length_drop] at h0
    obtain ⟨b', o', e, hlb, hhb, hc⟩ := hr.2 (by omega)
    injection e with e
    injection e with e1 e2
    subst e1; subst e2
    refine ⟨b, o + m * 5, rfl, hlb, hhb, fun j u hu => ?_⟩
    rw [List.getElem?_drop] at hu
    have := hc _ u hu
    rw [Nat.add_assoc]; exact this
  · rw [List.length_drop] at hk
    obtain ⟨a, d, p, h5, h6, h7⟩ := hx (m + k) (by omega)
    rw [ge_drop]
    exact ⟨a, d, p, es5_drop h5, h6, h7⟩
theorem ES.oneCell {w : World} {lo hi : Nat} {es : List Ent} {cs : List Value} (hl : cs.length = es.length * 5) (hx : ∀ k, k < es.length → E64 (ge es k) ∧ ∃ d p, Es5 cs k (ge es k) d p ∧ TS w lo hi 5 d (ge es k).ds ∧ TS w lo hi 4 p (ge es k).ps) : ∀ u ∈ cs, u.oneCell' = true := by
  intro u hu
  obtain ⟨q, hq, rfl⟩ := List.mem_iff_getElem.1 hu
  obtain ⟨_, d, p, ⟨h0, h1, h2, h3, h4⟩, hd, hp⟩ := hx (q / 5) (by omega)
  obtain ⟨Ad, cd, rfl, _⟩ := hd.form
  obtain ⟨Ap, cp, rfl, _⟩ := hp.form
  have hm : q % 5 < 5 := Nat.mod_lt _ (by omega)
  have e : q = q / 5 * 5 + q % 5 := by omega
  have key : ∀ {j : Nat} {u : Value}, q % 5 = j → cs[q / 5 * 5 + j]? = some u → u.oneCell' = true → (cs[q]'hq).oneCell' = true := by
    intro j u hj hu hone
    have : cs[q]? = some u := by rw [e, hj]; exact hu
    rw [List.getElem?_eq_getElem hq] at this
    injection this with this
    rw [this]; exact hone
  match h9 : q % 5, hm with
  | 0, _ => exact key h9 h0 rfl
  | 1, _ => exact key h9 h1 rfl
  | 2, _ => exact key h9 h2 rfl
  | 3, _ => exact key h9 h3 rfl
  | 4, _ => exact key h9 h4 rfl
end Go.Proofs.YtkgepklapglmdaaGreatDoor

namespace Go.Proofs.YtkgepklapglmdaaGreatDoor
open Go.RowKit

/-- 'append(v, u...)' at an operation half run: whatever the source's address; and in which block the new slice lies -/
theorem wp_append_many' {P : Program} {t e : TypeId} {z : Value} {size bytes : Nat} (S : SlT P t e z size bytes) {o : Oper} {a : Act} {K : Act → World → Prop} {Q : Exit → Act → World → Prop} (w : World) (s x : Operand)
    (ho : o.op = .call { callee := .builtin .append, args := #[s, x], argTypes := #[t, t] }) (lo hi : Nat) (A : Option Addr) (m c : Nat)
    (base : Nat) (v : Value) (n : Nat) (xs ys : List Value) (hs : a.eval s = v) (hx : a.eval x = .slice A m c) (hown : w.ownsRow base e size v n xs) (hsrc : Rd w lo hi size A m ys) (h1 : ∀ u ∈ ys, u.oneCell' = true)
    (hn : (n + m) * bytes ≤ 140737488355328) (hn2 : n + m ≤ 140737488355328) (hb : base ≤ w.heap.size)
    (h : ∀ v' w', w'.ownsRow base e size v' (n + m) (xs ++ ys) → w.grownBy w' v.ownBlock → Below base w w' → (v'.ownBlock = v.ownBlock ∨ v'.ownBlock = some w.heap.size) → K (a.put o.dst v') w') :
    Oper.wp P o a w K Q := by
  obtain ⟨i, hi', hz1, hz2, hz3⟩ := info_parts S.hi
  have fin : ∀ v' w', (Builtin.append_ #[t, t] o.type #[v, .slice A m c]).run P w = .ok v' w' → K (a.put o.dst v') w' → Oper.wp P o a w K Q := fun v' w' hr hk => by
    unfold Oper.wp execOp
    simp only [ho, resolve, invoke, builtin, Sem.run_bind, Sem.run_pure, Result.andThen_ok, List.map_toArray, List.map_cons, List.map_nil, hs, hx, hr]
    exact hk
  rcases Nat.eq_zero_or_pos m with h0 | h0
  · subst h0
    have hy : ys = [] := List.eq_nil_of_length_eq_zero (by simpa using hsrc.1)
    subst hy
    rcases A with _ | ad
    · exact fin v w (run_append_of_nil (P := P) w base t o.type e i size S.ht hi' v n xs hown c) (h v w (by simpa using hown) (World.grownBy.refl w _) (Below.refl _ _) (.inl rfl))
    · obtain ⟨v', w', hr, k1, k2, _, k4⟩ := run_append_own_at (P := P) w base t o.type e i z size bytes S.ht hi' hz1 hz2 hz3 S.hz S.hs v n xs hown ad 0 c [] (by simp) (fun j u hu => by simp at hu) h1 (by unfold maxLen; omega) hn hb
      exact fin v' w' hr (h v' w' k1 k2 ((Below.refl base w).grown k2 hb fun k hk => (hown.lt k hk).1) k4)
  · obtain ⟨b, o', rfl, _, _, hc⟩ := hsrc.2 h0
    obtain ⟨v', w', hr, k1, k2, _, k4⟩ := run_append_own_at (P := P) w base t o.type e i z size bytes S.ht hi' hz1 hz2 hz3 S.hz S.hs v n xs hown ⟨b, o', none⟩ m c ys hsrc.1 (fun j u hu => by
        have := hc j u hu
        have hadd : (⟨b, o', none⟩ : Addr).add j = ⟨b, o' + j, none⟩ := by unfold Addr.add; split <;> simp_all
        rw [hadd]; exact this) h1 (by unfold maxLen; omega) hn hb
    exact fin v' w' hr (h v' w' k1 k2 ((Below.refl base w).grown k2 hb fun k hk => (hown.lt k hk).1) k4)
/-- 'append(v, x)': x lies in the block that has just been laid -/
theorem wp_append1' {P : Program} {t e : TypeId} {z : Value} {size bytes : Nat} (S : SlT P t e z size bytes) {o : Oper} {a : Act} {K : Act → World → Prop} {Q : Exit → Act → World → Prop} (w : World) (s x : Operand)
    (ho : o.op = .call { callee := .builtin .append, args := #[s, x], argTypes := #[t, t] }) (cs : Array Value)
    (base : Nat) (v : Value) (n : Nat) (xs : List Value) (hs : a.eval s = v) (hx : a.eval x = .slice (some ⟨w.heap.size, 0, none⟩) 1 1) (hown : w.ownsRow base e size v n xs)
    (hcs : cs.size = size) (h1 : ∀ u ∈ cs.toList, u.oneCell' = true) (hn : (n + 1) * bytes ≤ 140737488355328) (hn2 : n + 1 ≤ 140737488355328) (hb : base ≤ w.heap.size)
    (h : ∀ v' w', w'.ownsRow base e size v' (n + 1) (xs ++ cs.toList) → Below base w w' → w.heap.size + 1 ≤ w'.heap.size → (∀ k, k < w.heap.size → some k ≠ v.ownBlock → w'.heap[k]? = w.heap[k]?) → (v'.ownBlock = v.ownBlock ∨ v'.ownBlock = some (w.heap.size + 1)) → K (a.put o.dst v') w') :
    Oper.wp P o a (w.alloc (.cells cs e)) K Q := by
  refine wp_append_many' S (w.alloc (.cells cs e)) s x ho w.heap.size (w.heap.size + 1) (some ⟨w.heap.size, 0, none⟩) 1 1 base v n xs cs.toList hs hx (hown.alloc _) ⟨by simp [hcs], fun _ => ⟨w.heap.size, 0, rfl, Nat.le_refl _, Nat.lt_succ_self _, fun j u hu => by
    have := cells_at_new (w := w) (e := e) hu
    have hadd : (⟨w.heap.size, 0, none⟩ : Addr).add j = ⟨w.heap.size, 0 + j, none⟩ := by unfold Addr.add; split <;> simp_all
    rw [hadd] at this; exact this⟩⟩ h1 hn hn2 (by simp; omega) fun v' w' k1 k2 k3 k4 => h v' w' k1 (((Below.refl base w).alloc hb _).trans k3) (by have := k2.size; simpa using this) (fun k hk hne => ?_) (by simpa using k4)
  rw [k2.block k (by simp; omega) hne]
  exact Below.heap_alloc w _ k hk
/-- 'append(v, e)' of an entry whose slices are read elsewhere; and in which block the new slice lies -/
theorem wp_appendX' {P : Program} {t e : TypeId} {z : Value} (S : SlT P t e z 5 72) {o : Oper} {a : Act} {K : Act → World → Prop} {Q : Exit → Act → World → Prop} (w : World) (s x : Operand)
    (ho : o.op = .call { callee := .builtin .append, args := #[s, x], argTypes := #[t, t] }) (f : Ent) (d p : Value) (base lo hi : Nat) (v : Value) (es : List Ent) (hs : a.eval s = v) (hx : a.eval x = .slice (some ⟨w.heap.size, 0, none⟩) 1 1)
    (hown : OwnX w base lo hi e v es) (hf : E64 f) (hd : TS w lo hi 5 d f.ds) (hp : TS w lo hi 4 p f.ps) (hb : base ≤ w.heap.size) (hh : hi ≤ base) (hn : es.length ≤ 1000000)
    (h : ∀ v' w', OwnX w' base lo hi e v' (es ++ [f]) → Grew base v v' w w' → (v'.ownBlock = v.ownBlock ∨ v'.ownBlock = some (w.heap.size + 1)) → K (a.put o.dst v') w') :
    Oper.wp P o a (w.alloc (.cells #[.int .i64 f.lb, .int .i64 f.W, .int .i64 f.L, d, p] e)) K Q := by
  obtain ⟨cs, vd, vp, h1, h3⟩ := hown
  obtain ⟨Ad, cd, rfl, _⟩ := hd.form
  obtain ⟨Ap, cp, rfl, _⟩ := hp.form
  refine wp_append1' S w s x ho _ base v es.length cs hs hx h1 (by simp) (by
    intro u hu
    simp only [List.mem_cons, List.not_mem_nil, or_false] at hu
    rcases hu with rfl | rfl | rfl | rfl | rfl <;> rfl) (by omega) (by omega) hb fun v' w' k1 k3 k4 ko k5 => h v' w' ?_ ⟨k3, by omega, ko⟩ k5
  have kk : Kept lo hi w w' := fun g _ hg => k3.block g (by omega)
  refine ⟨_, fun k => if k < es.length then vd k else .slice Ad f.ds.length cd, fun k => if k < es.length then vp k else .slice Ap f.ps.length cp, by rw [List.length_append, List.length_singleton]; exact k1, fun k hk => ?_⟩
  rw [List.length_append, List.length_singleton] at hk
  by_cases hlt : k < es.length
  · obtain ⟨a1, a2, a3, a4⟩ := h3 k hlt
    simp only [if_pos hlt]
    rw [ge_app hlt]
    exact ⟨a1, es5_app a2, a3.kept kk, a4.kept kk⟩
  · have hke : k = es.length := by omega
    subst hke
    simp only [if_neg hlt]
    rw [ge_last]
    exact ⟨hf, es5_last h1.1 f _ _, hd.kept kk, hp.kept kk⟩
theorem wpList_appendX' {P : Program} {t e : TypeId} {z : Value} (S : SlT P t e z 5 72) {ops : Array Oper} {rest : List Oper} {o : Oper} {a : Act} {Q : Exit → Act → World → Prop} (w : World) (hgd : o.guard = none) (s x : Operand)
    (ho : o.op = .call { callee := .builtin .append, args := #[s, x], argTypes := #[t, t] }) (f : Ent) (d p : Value) (base lo hi : Nat) (v : Value) (es : List Ent) (hs : a.eval s = v) (hx : a.eval x = .slice (some ⟨w.heap.size, 0, none⟩) 1 1)
    (hown : OwnX w base lo hi e v es) (hf : E64 f) (hd : TS w lo hi 5 d f.ds) (hp : TS w lo hi 4 p f.ps) (hb : base ≤ w.heap.size) (hh : hi ≤ base) (hn : es.length ≤ 1000000)
    (h : ∀ v' w', OwnX w' base lo hi e v' (es ++ [f]) → Grew base v v' w w' → (v'.ownBlock = v.ownBlock ∨ v'.ownBlock = some (w.heap.size + 1)) → wpList P ops Q rest (a.put o.dst v') w') :
    wpList P ops Q (o :: rest) a (w.alloc (.cells #[.int .i64 f.lb, .int .i64 f.W, .int .i64 f.L, d, p] e)) :=
  wpList_plain hgd fun _ hK => wp_appendX' S w s x ho f d p base lo hi v es hs hx hown hf hd hp hb hh hn fun v' w' k1 k2 k3 => hK _ _ (h v' w' k1 k2 k3)
theorem step_appendX' {P : Program} {t e : TypeId} {z : Value} (S : SlT P t e z 5 72) {ops : Array Oper} {o : Oper} {a : Act} {K : Act → World → Prop} {Q : Exit → Act → World → Prop} {E : Prop} (w : World) (hgd : o.guard = none) (s x : Operand)
    (ho : o.op = .call { callee := .builtin .append, args := #[s, x], argTypes := #[t, t] }) (f : Ent) (d p : Value) (base lo hi : Nat) (v : Value) (es : List Ent) (hs : a.eval s = v) (hx : a.eval x = .slice (some ⟨w.heap.size, 0, none⟩) 1 1)
    (hown : OwnX w base lo hi e v es) (hf : E64 f) (hd : TS w lo hi 5 d f.ds) (hp : TS w lo hi 4 p f.ps) (hb : base ≤ w.heap.size) (hh : hi ≤ base) (hn : es.length ≤ 1000000)
    (h : ∀ v' w', OwnX w' base lo hi e v' (es ++ [f]) → Grew base v v' w w' → (v'.ownBlock = v.ownBlock ∨ v'.ownBlock = some (w.heap.size + 1)) → K (a.put o.dst v') w') :
    if Region.wanted o (yielded ops a.tmps) = true then Oper.wp P o a (w.alloc (.cells #[.int .i64 f.lb, .int .i64 f.W, .int .i64 f.L, d, p] e)) K Q else E := by
  have hw : Region.wanted o (yielded ops a.tmps) = true := by simp [Region.wanted, hgd]
  rw [if_pos hw]
  exact wp_appendX' S w s x ho f d p base lo hi v es hs hx hown hf hd hp hb hh hn h
/-- 'append(v, u...)' of entries that are read elsewhere -/
theorem wp_appendXs' {P : Program} {t e : TypeId} {z : Value} (S : SlT P t e z 5 72) {o : Oper} {a : Act} {K : Act → World → Prop} {Q : Exit → Act → World → Prop} (w : World) (s x : Operand)
    (ho : o.op = .call { callee := .builtin .append, args := #[s, x], argTypes := #[t, t] }) (base lo hi : Nat) (u v : Value) (es fs : List Ent) (hs : a.eval s = v) (hx : a.eval x = u)
    (hown : OwnX w base lo hi e v es) (hsrc : ES w lo hi u fs) (hb : base ≤ w.heap.size) (hh : hi ≤ base) (hn : es.length + fs.length ≤ 1000000)
    (h : ∀ v' w', OwnX w' base lo hi e v' (es ++ fs) → Grew base v v' w w' → (v'.ownBlock = v.ownBlock ∨ v'.ownBlock = some w.heap.size) → K (a.put o.dst v') w') :
    Oper.wp P o a w K Q := by
  obtain ⟨cs, vd, vp, h1, h3⟩ := hown
  obtain ⟨A, c, ys, rfl, hc, hm, hr, hf⟩ := hsrc
  refine wp_append_many' S w s x ho lo hi A fs.length c base v es.length cs ys hs hx h1 hr (ES.oneCell hr.1 hf) (by omega) (by omega) hb fun v' w' k1 k2 k3 k5 => h v' w' ?_ ⟨k3, k2.size, k2.block⟩ k5
  have kk : Kept lo hi w w' := fun g _ hg => k3.block g (by omega)
  have hcl := h1.1
  have ch : ∀ k, ∃ dp : Value × Value, k < fs.length → E64 (ge fs k) ∧ Es5 ys k (ge fs k) dp.1 dp.2 ∧ TS w lo hi 5 dp.1 (ge fs k).ds ∧ TS w lo hi 4 dp.2 (ge fs k).ps := fun k => by
    by_cases hk : k < fs.length
    · obtain ⟨a, d, p, b⟩ := hf k hk
      exact ⟨(d, p), fun _ => ⟨a, b⟩⟩
    · exact ⟨(undef, undef), fun h => absurd h hk⟩
  refine ⟨_, fun k => if k < es.length then vd k else (Classical.choose (ch (k - es.length))).1, fun k => if k < es.length then vp k else (Classical.choose (ch (k - es.length))).2, by rw [List.length_append]; exact k1, fun k hk => ?_⟩
  rw [List.length_append] at hk
  by_cases hlt : k < es.length
  · obtain ⟨a1, a2, a3, a4⟩ := h3 k hlt
    simp only [if_pos hlt]
    rw [ge_app hlt]
    exact ⟨a1, es5_app a2, a3.kept kk, a4.kept kk⟩
  · simp only [if_neg hlt]
    obtain ⟨a1, a2, a3, a4⟩ := Classical.choose_spec (ch (k - es.length)) (by omega)
    rw [ge_app2 (by omega)]
    exact ⟨a1, es5_app2 hcl (by omega) a2, a3.kept kk, a4.kept kk⟩
theorem step_appendXs' {P : Program} {t e : TypeId} {z : Value} (S : SlT P t e z 5 72) {ops : Array Oper} {o : Oper} {a : Act} {K : Act → World → Prop} {Q : Exit → Act → World → Prop} {E : Prop} (w : World) (hgd : o.guard = none) (s x : Operand)
    (ho : o.op = .call { callee := .builtin .append, args := #[s, x], argTypes := #[t, t] }) (base lo hi : Nat) (u v : Value) (es fs : List Ent) (hs : a.eval s = v) (hx : a.eval x = u)
    (hown : OwnX w base lo hi e v es) (hsrc : ES w lo hi u fs) (hb : base ≤ w.heap.size) (hh : hi ≤ base) (hn : es.length + fs.length ≤ 1000000)
    (h : ∀ v' w', OwnX w' base lo hi e v' (es ++ fs) → Grew base v v' w w' → (v'.ownBlock = v.ownBlock ∨ v'.ownBlock = some w.heap.size) → K (a.put o.dst v') w') :
    if Region.wanted o (yielded ops a.tmps) = true then Oper.wp P o a w K Q else E := by
  have hw : Region.wanted o (yielded ops a.tmps) = true := by simp [Region.wanted, hgd]
  rw [if_pos hw]
  exact wp_appendXs' S w s x ho base lo hi u v es fs hs hx hown hsrc hb hh hn h
/-- 'append(v, t)' of tuples, at an operation half run; and in which block the new slice lies -/
theorem wp_appendT' {P : Program} {t e : TypeId} {z : Value} {k bytes : Nat} (S : SlT P t e z k bytes) {o : Oper} {a : Act} {K : Act → World → Prop} {Q : Exit → Act → World → Prop} (w : World) (s x : Operand)
    (ho : o.op = .call { callee := .builtin .append, args := #[s, x], argTypes := #[t, t] }) (y : List Int) (cs : Array Value) (hcs : cs = (y.map (Value.int .i64)).toArray)
    (base : Nat) (v : Value) (xss : List (List Int)) (hs : a.eval s = v) (hx : a.eval x = .slice (some ⟨w.heap.size, 0, none⟩) 1 1) (hown : OwnT w base e k v xss) (hy : y.length = k ∧ ∀ n ∈ y, I64 n)
    (hn : (xss.length + 1) * bytes ≤ 140737488355328) (hn2 : xss.length ≤ 1099511627776) (hb : base ≤ w.heap.size)
    (h : ∀ v' w', OwnT w' base e k v' (xss ++ [y]) → Grew base v v' w w' → (v'.ownBlock = v.ownBlock ∨ v'.ownBlock = some (w.heap.size + 1)) → K (a.put o.dst v') w') :
    Oper.wp P o a (w.alloc (.cells cs e)) K Q := by
  subst hcs
  refine wp_append1' S w s x ho _ base v xss.length (flatT xss) hs hx hown.1 (by simp [hy.1]) (by
    intro u hu
    simp only [List.mem_map] at hu
    obtain ⟨n, _, rfl⟩ := hu
    rfl) hn (by omega) hb fun v' w' k1 k3 k4 ko k5 => h v' w' ⟨?_, ?_⟩ ⟨k3, by omega, ko⟩ k5
  · rw [List.length_append, flatT_append, flatT_one]
    exact k1
  · intro r hr
    rcases List.mem_append.1 hr with hr | hr
    · exact hown.2 r hr
    · rw [List.mem_singleton.1 hr]; exact hy
theorem step_appendT' {P : Program} {t e : TypeId} {z : Value} {k bytes : Nat} (S : SlT P t e z k bytes) {ops : Array Oper} {o : Oper} {a : Act} {K : Act → World → Prop} {Q : Exit → Act → World → Prop} {E : Prop} (w : World) (hgd : o.guard = none) (s x : Operand)
    (ho : o.op = .call { callee := .builtin .append, args := #[s, x], argTypes := #[t, t] }) (y : List Int) (cs : Array Value) (hcs : cs = (y.map (Value.int .i64)).toArray)
    (base : Nat) (v : Value) (xss : List (List Int)) (hs : a.eval s = v) (hx : a.eval x = .slice (some ⟨w.heap.size, 0, none⟩) 1 1) (hown : OwnT w base e k v xss) (hy : y.length = k ∧ ∀ n ∈ y, I64 n)
    (hn : (xss.length + 1) * bytes ≤ 140737488355328) (hn2 : xss.length ≤ 1099511627776) (hb : base ≤ w.heap.size)
    (h : ∀ v' w', OwnT w' base e k v' (xss ++ [y]) → Grew base v v' w w' → (v'.ownBlock = v.ownBlock ∨ v'.ownBlock = some (w.heap.size + 1)) → K (a.put o.dst v') w') :
    if Region.wanted o (yielded ops a.tmps) = true then Oper.wp P o a (w.alloc (.cells cs e)) K Q else E := by
  have hw : Region.wanted o (yielded ops a.tmps) = true := by simp [Region.wanted, hgd]
  rw [if_pos hw]
  exact wp_appendT' S w s x ho y cs hcs base v xss hs hx hown hy hn hn2 hb h
theorem wpList_appendT' {P : Program} {t e : TypeId} {z : Value} {k bytes : Nat} (S : SlT P t e z k bytes) {ops : Array Oper} {rest : List Oper} {o : Oper} {a : Act} {Q : Exit → Act → World → Prop} (w : World) (hgd : o.guard = none) (s x : Operand)
    (ho : o.op = .call { callee := .builtin .append, args := #[s, x], argTypes := #[t, t] }) (y : List Int) (cs : Array Value) (hcs : cs = (y.map (Value.int .i64)).toArray)
    (base : Nat) (v : Value) (xss : List (List Int)) (hs : a.eval s = v) (hx : a.eval x = .slice (some ⟨w.heap.size, 0, none⟩) 1 1) (hown : OwnT w base e k v xss) (hy : y.length = k ∧ ∀ n ∈ y, I64 n)
    (hn : (xss.length + 1) * bytes ≤ 140737488355328) (hn2 : xss.length ≤ 1099511627776) (hb : base ≤ w.heap.size)
    (h : ∀ v' w', OwnT w' base e k v' (xss ++ [y]) → Grew base v v' w w' → (v'.ownBlock = v.ownBlock ∨ v'.ownBlock = some (w.heap.size + 1)) → wpList P ops Q rest (a.put o.dst v') w') :
    wpList P ops Q (o :: rest) a (w.alloc (.cells cs e)) :=
  wpList_plain hgd fun _ hK => wp_appendT' S w s x ho y cs hcs base v xss hs hx hown hy hn hn2 hb fun v' w' k1 k2 k3 => hK _ _ (h v' w' k1 k2 k3)
end Go.Proofs.YtkgepklapglmdaaGreatDoor
