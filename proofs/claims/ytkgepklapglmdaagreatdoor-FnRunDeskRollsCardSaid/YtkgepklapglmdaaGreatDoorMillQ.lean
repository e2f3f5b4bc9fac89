/-
  Lemmas and contracts of single functions of this program, used by the proofs of its laws: what each call returns and what becomes of memory. Conditions: the hypotheses of each theorem.
-/
import Derived.Test.YtkgepklapglmdaaGreatDoorMillN
namespace Go.Proofs.YtkgepklapglmdaaGreatDoor
open Go.RowKit
attribute [local go_sem ↓] Go.wp_at_zero Go.wp_at_succ

theorem ins_lt {α : Type} {cs vs : List α} {a q : Nat} (ha : a ≤ cs.length) (hq : q < a) : (cs.take a ++ vs ++ cs.drop a)[q]? = cs[q]? := by
  rw [List.append_assoc, List.getElem?_append_left (by rw [List.length_take]; omega), List.getElem?_take, if_pos hq]
theorem ins_mid {α : Type} {cs vs : List α} {a j : Nat} (ha : a ≤ cs.length) (hj : j < vs.length) : (cs.take a ++ vs ++ cs.drop a)[a + j]? = vs[j]? := by
  have h9 : (cs.take a).length = a := by rw [List.length_take]; omega
  rw [List.append_assoc, List.getElem?_append_right (by omega), h9, Nat.add_sub_cancel_left, List.getElem?_append_left hj]
theorem ins_ge {α : Type} {cs vs : List α} {a q : Nat} (ha : a ≤ cs.length) (hq : a ≤ q) : (cs.take a ++ vs ++ cs.drop a)[q + vs.length]? = cs[q]? := by
  have h9 : (cs.take a ++ vs).length = a + vs.length := by rw [List.length_append, List.length_take]; omega
  rw [List.getElem?_append_right (by omega), h9, show q + vs.length - (a + vs.length) = q - a by omega, List.getElem?_drop, show a + (q - a) = q by omega]
theorem del_lt {α : Type} {cs : List α} {a b q : Nat} (ha : a ≤ cs.length) (hq : q < a) : (cs.take a ++ cs.drop b)[q]? = cs[q]? := by
  rw [List.getElem?_append_left (by rw [List.length_take]; omega), List.getElem?_take, if_pos hq]
theorem del_ge {α : Type} {cs : List α} {a b q : Nat} (ha : a ≤ cs.length) (hq : a ≤ q) : (cs.take a ++ cs.drop b)[q]? = cs[b + (q - a)]? := by
  have h9 : (cs.take a).length = a := by rw [List.length_take]; omega
  rw [List.getElem?_append_right (by omega), h9, List.getElem?_drop]
theorem ge_ins {es : List Ent} {f : Ent} {i : Nat} (hi : i ≤ es.length) (k : Nat) : ge (es.take i ++ f :: es.drop i) k = if k < i then ge es k else if k = i then f else ge es (k - 1) := by
  have e : es.take i ++ f :: es.drop i = es.take i ++ [f] ++ es.drop i := by rw [List.append_assoc]; rfl
  unfold ge
  rw [e, List.getD_eq_getElem?_getD]
  by_cases h1 : k < i
  · rw [if_pos h1, ins_lt hi h1, List.getD_eq_getElem?_getD]
  · rw [if_neg h1]
    by_cases h2 : k = i
    · subst h2
      rw [if_pos rfl]
      have := ins_mid (vs := [f]) (j := 0) hi (by simp)
      rw [Nat.add_zero] at this
      rw [this]; rfl
    · rw [if_neg h2]
      have := ins_ge (vs := [f]) (q := k - 1) hi (by omega)
      rw [List.length_singleton, show k - 1 + 1 = k by omega] at this
      rw [this, List.getD_eq_getElem?_getD]
theorem ge_del {es : List Ent} {i : Nat} (hi : i < es.length) (k : Nat) : ge (es.take i ++ es.drop (i + 1)) k = if k < i then ge es k else ge es (k + 1) := by
  unfold ge
  rw [List.getD_eq_getElem?_getD]
  by_cases h1 : k < i
  · rw [if_pos h1, del_lt (by omega) h1, List.getD_eq_getElem?_getD]
  · rw [if_neg h1, del_ge (by omega) (by omega), show i + 1 + (k - i) = k + 1 by omega, List.getD_eq_getElem?_getD]
theorem OwnE.cs1 {w : World} {base s tD tP : Nat} {es : List Ent} {cs : List Value} {vd vp : Nat → Value} (hl : cs.length = es.length * 5)
    (h3 : ∀ k, k < es.length → E64 (ge es k) ∧ Es5 cs k (ge es k) (vd k) (vp k) ∧ (OwnT w base tD 5 (vd k) (ge es k).ds ∧ ∀ g, (vd k).ownBlock = some g → g < s) ∧ (OwnT w base tP 4 (vp k) (ge es k).ps ∧ ∀ g, (vp k).ownBlock = some g → g < s)) : ∀ u ∈ cs, u.oneCell' = true :=
  ES.oneCell (w := w) (lo := base) (hi := s) hl fun k hk => by
    obtain ⟨a, b, c, d⟩ := h3 k hk
    exact ⟨a, vd k, vp k, b, c.1.ts_at c.2, d.1.ts_at d.2⟩
theorem InsertE_any (base c n i vb : Nat) (A : Option Addr) (cs vs : List Value) (w : World) (h : w.ownsRow base 58 5 (.slice A n c) n cs) (hi : i ≤ n) (hn : n ≤ 1000) (hnc : n ≤ c) (hv : w.heap[vb]? = some (.cells vs.toArray 58 (0, 0))) (hvl : vs.length = 5) (h1v : ∀ u ∈ vs, u.oneCell' = true) (h1 : ∀ u ∈ cs, u.oneCell' = true) (hvb : ∀ g, (Value.slice A n c).ownBlock = some g → vb ≠ g) (hb : base ≤ w.heap.size) :
    Calls Tryz.prog 85 #[.slice A n c, .int .i64 i, .slice (some ⟨vb, 0, none⟩) 1 1] w fun e w' => InsPost base i n cs vs (.slice A n c) w e w' := by
  by_cases he : i = n
  · subst he
    exact InsertE_end base c i vb A cs vs w h hn hnc hv hvl h1v hb
  · by_cases hr : n + 1 ≤ c
    · exact InsertE_in base c n i vb A cs vs w h (by omega) hn hr hv hvl h1v h1 hvb
    · exact InsertE_grow base c n i vb A cs vs w h (by omega) hn (by omega) hv hvl h1v h1 hb
theorem InsertO_any (base s i vb n c : Nat) (A : Option Addr) (es : List Ent) (f : Ent) (w : World) (h : OwnE w base s 58 92 38 (.slice A n c) es) (hi : i ≤ es.length) (hl : es.length ≤ 1000) (hf : E64 f) (hfd : f.ds = []) (hfp : f.ps = []) (hs : s ≤ vb) (hb : base ≤ s)
    (hv : w.heap[vb]? = some (.cells #[.int .i64 f.lb, .int .i64 f.W, .int .i64 f.L, .slice none 0 0, .slice none 0 0] 58 (0, 0))) :
    Calls Tryz.prog 85 #[.slice A n c, .int .i64 i, .slice (some ⟨vb, 0, none⟩) 1 1] w fun e w' => ∃ v', e = .returned v' ∧ OwnE w' base w'.heap.size 58 92 38 v' (es.take i ++ f :: es.drop i) ∧ Grew base (.slice A n c) v' w w' := by
  have hvl := (Array.getElem?_eq_some_iff.1 hv).1
  obtain ⟨A', c', hAc, hc, _⟩ := h.form
  injection hAc with _ hn e3
  subst hn; subst e3
  obtain ⟨cs, vd, vp, h1, h2, h3, h4⟩ := h
  have hcl := h1.1
  refine (InsertE_any base c es.length i vb A cs [.int .i64 f.lb, .int .i64 f.W, .int .i64 f.L, .slice none 0 0, .slice none 0 0] w h1 hi hl hc hv rfl (by simp [Value.oneCell']) (OwnE.cs1 hcl h3) (fun g hg => by have := h2 g hg; omega) (by omega)).mono ?_
  rintro e w' ⟨v', rfl, ho, hg, hbk⟩
  have hbel : Below base w w' := (Below.refl base w).grown hg (by omega) fun k hk => (h1.lt k hk).1
  have hD : 58 ≠ 92 := by decide
  have hP : 58 ≠ 38 := by decide
  have keepD : ∀ k, k < es.length → OwnT w' base 92 5 (vd k) (ge es k).ds := fun k hk =>
    (h3 k hk).2.2.1.1.keptBlock fun g hgv => hg.block g ((h3 k hk).2.2.1.1.lt g hgv).2 fun e => own_types h1 (h3 k hk).2.2.1.1.1 hD e.symm hgv
  have keepP : ∀ k, k < es.length → OwnT w' base 38 4 (vp k) (ge es k).ps := fun k hk =>
    (h3 k hk).2.2.2.1.keptBlock fun g hgv => hg.block g ((h3 k hk).2.2.2.1.lt g hgv).2 fun e => own_types h1 (h3 k hk).2.2.2.1.1 hP e.symm hgv
  have hsz := hg.size
  have hlen : (es.take i ++ f :: es.drop i).length = es.length + 1 := by simp; omega
  refine ⟨v', rfl, ⟨_, fun k => if k < i then vd k else if k = i then .slice none 0 0 else vd (k - 1), fun k => if k < i then vp k else if k = i then .slice none 0 0 else vp (k - 1), by rw [hlen]; exact ho, fun g hg' => (ho.lt g hg').2, fun k hk => ?_, fun j k hjk hk => ?_⟩, ⟨hbel, hsz, hg.block⟩⟩
  · rw [hlen] at hk
    rw [ge_ins hi]
    dsimp only
    by_cases k1 : k < i
    · simp only [if_pos k1]
      obtain ⟨a, ⟨p0, p1, p2, p3, p4⟩, b, d⟩ := h3 k (by omega)
      refine ⟨a, ⟨?_, ?_, ?_, ?_, ?_⟩, ⟨keepD k (by omega), fun g hg' => by have := b.1.lt g hg'; omega⟩, ⟨keepP k (by omega), fun g hg' => by have := d.1.lt g hg'; omega⟩⟩
      all_goals (rw [ins_lt (by omega) (by omega)]; assumption)
    · simp only [if_neg k1]
      by_cases k2 : k = i
      · subst k2
        simp only [if_true]
        refine ⟨hf, ⟨?_, ?_, ?_, ?_, ?_⟩, ⟨by rw [hfd]; exact OwnT.nil _ _ _ _, fun g hg' => by simp [Value.ownBlock] at hg'⟩, ⟨by rw [hfp]; exact OwnT.nil _ _ _ _, fun g hg' => by simp [Value.ownBlock] at hg'⟩⟩
        · have := ins_mid (cs := cs) (vs := [Value.int .i64 f.lb, .int .i64 f.W, .int .i64 f.L, .slice none 0 0, .slice none 0 0]) (a := k * 5) (j := 0) (by omega) (by simp)
          exact this
        · exact ins_mid (cs := cs) (vs := [Value.int .i64 f.lb, .int .i64 f.W, .int .i64 f.L, .slice none 0 0, .slice none 0 0]) (a := k * 5) (j := 1) (by omega) (by simp)
        · exact ins_mid (cs := cs) (vs := [Value.int .i64 f.lb, .int .i64 f.W, .int .i64 f.L, .slice none 0 0, .slice none 0 0]) (a := k * 5) (j := 2) (by omega) (by simp)
        · exact ins_mid (cs := cs) (vs := [Value.int .i64 f.lb, .int .i64 f.W, .int .i64 f.L, .slice none 0 0, .slice none 0 0]) (a := k * 5) (j := 3) (by omega) (by simp)
        · exact ins_mid (cs := cs) (vs := [Value.int .i64 f.lb, .int .i64 f.W, .int .i64 f.L, .slice none 0 0, .slice none 0 0]) (a := k * 5) (j := 4) (by omega) (by simp)
      · simp only [if_neg k2]
        obtain ⟨a, ⟨p0, p1, p2, p3, p4⟩, b, d⟩ := h3 (k - 1) (by omega)
        have hge : ∀ (j : Nat), (cs.take (i * 5) ++ [Value.int .i64 f.lb, .int .i64 f.W, .int .i64 f.L, .slice none 0 0, .slice none 0 0] ++ cs.drop (i * 5))[k * 5 + j]? = cs[(k - 1) * 5 + j]? := fun j => by
          have := ins_ge (cs := cs) (vs := [Value.int .i64 f.lb, .int .i64 f.W, .int .i64 f.L, .slice none 0 0, .slice none 0 0]) (a := i * 5) (q := (k - 1) * 5 + j) (by omega) (by omega)
          rw [show k * 5 + j = (k - 1) * 5 + j + 5 by omega]; exact this
        refine ⟨a, ⟨(hge 0).trans p0, (hge 1).trans p1, (hge 2).trans p2, (hge 3).trans p3, (hge 4).trans p4⟩, ⟨keepD _ (by omega), fun g hg' => by have := b.1.lt g hg'; omega⟩, ⟨keepP _ (by omega), fun g hg' => by have := d.1.lt g hg'; omega⟩⟩
  · rw [hlen] at hk
    dsimp only
    have hno : ∀ g, (Value.slice none 0 0).ownBlock = some g → False := fun g hg' => by simp [Value.ownBlock] at hg'
    by_cases j1 : j < i
    · simp only [if_pos j1]
      by_cases k1 : k < i
      · simp only [if_pos k1]; exact h4 j k hjk (by omega)
      · simp only [if_neg k1]
        by_cases k2 : k = i
        · simp only [if_pos k2]; exact ⟨fun g _ b => hno g b, fun g _ b => hno g b⟩
        · simp only [if_neg k2]; exact h4 j (k - 1) (by omega) (by omega)
    · simp only [if_neg j1, if_neg (show ¬ k < i by omega), if_neg (show ¬ k = i by omega)]
      by_cases j2 : j = i
      · simp only [if_pos j2]; exact ⟨fun g a _ => hno g a, fun g a _ => hno g a⟩
      · simp only [if_neg j2]; exact h4 (j - 1) (k - 1) (by omega) (by omega)
theorem DeleteO_any (base s i n c : Nat) (A : Option Addr) (es : List Ent) (w : World) (h : OwnE w base s 58 92 38 (.slice A n c) es) (hi : i < es.length) (hl : es.length ≤ 1000) (hb : base ≤ w.heap.size) :
    Calls Tryz.prog 88 #[.slice A n c, .int .i64 i, .int .i64 (i + 1)] w fun e w' => e = .returned (.slice A (n - 1) c) ∧ OwnE w' base s 58 92 38 (.slice A (n - 1) c) (es.take i ++ es.drop (i + 1)) ∧ Grew base (.slice A n c) (.slice A (n - 1) c) w w' := by
  obtain ⟨A', c', hAc, hc, _⟩ := h.form
  injection hAc with _ hn e3
  subst hn; subst e3
  obtain ⟨cs, vd, vp, h1, h2, h3, h4⟩ := h
  have hcl := h1.1
  have h1c := OwnE.cs1 hcl h3
  obtain ⟨p, hp⟩ : ∃ p, es.length = p + 1 := ⟨es.length - 1, by omega⟩
  have h1' := h1
  rw [hp] at h1'
  have hblk : (Value.slice A es.length c).ownBlock = (Value.slice A (p + 1) c).ownBlock := by rw [hp]
  rw [hp]
  refine (DeleteE_any base c p i A cs w h1' (by omega) (by omega) h1c).mono ?_
  rintro e w' ⟨rfl, ho, hg⟩
  rw [← hblk] at hg
  have hbel : Below base w w' := (Below.refl base w).grown hg hb fun k hk => (h1.lt k hk).1
  have hD : 58 ≠ 92 := by decide
  have hP : 58 ≠ 38 := by decide
  have keepD : ∀ k, k < es.length → OwnT w' base 92 5 (vd k) (ge es k).ds := fun k hk =>
    (h3 k hk).2.2.1.1.keptBlock fun g hgv => hg.block g ((h3 k hk).2.2.1.1.lt g hgv).2 fun e => own_types h1 (h3 k hk).2.2.1.1.1 hD e.symm hgv
  have keepP : ∀ k, k < es.length → OwnT w' base 38 4 (vp k) (ge es k).ps := fun k hk =>
    (h3 k hk).2.2.2.1.keptBlock fun g hgv => hg.block g ((h3 k hk).2.2.2.1.lt g hgv).2 fun e => own_types h1 (h3 k hk).2.2.2.1.1 hP e.symm hgv
  have hlen : (es.take i ++ es.drop (i + 1)).length = p := by simp; omega
  refine ⟨rfl, ⟨_, fun k => if k < i then vd k else vd (k + 1), fun k => if k < i then vp k else vp (k + 1), by rw [hlen]; exact ho, fun g hg' => h2 g (by cases A <;> exact hg'), fun k hk => ?_, fun j k hjk hk => ?_⟩, ⟨hbel, hg.size, fun k hk hne => hg.block k hk (by rw [hblk]; exact hne)⟩⟩
  · rw [hlen] at hk
    rw [ge_del hi]
    dsimp only
    by_cases k1 : k < i
    · simp only [if_pos k1]
      obtain ⟨a, ⟨p0, p1, p2, p3, p4⟩, b, d⟩ := h3 k (by omega)
      refine ⟨a, ⟨?_, ?_, ?_, ?_, ?_⟩, ⟨keepD k (by omega), b.2⟩, ⟨keepP k (by omega), d.2⟩⟩
      all_goals (rw [del_lt (by omega) (by omega)]; assumption)
    · simp only [if_neg k1]
      obtain ⟨a, ⟨p0, p1, p2, p3, p4⟩, b, d⟩ := h3 (k + 1) (by omega)
      have hge : ∀ (j : Nat), (cs.take (i * 5) ++ cs.drop ((i + 1) * 5))[k * 5 + j]? = cs[(k + 1) * 5 + j]? := fun j => by
        rw [del_ge (by omega) (by omega)]
        congr 1; omega
      refine ⟨a, ⟨(hge 0).trans p0, (hge 1).trans p1, (hge 2).trans p2, (hge 3).trans p3, (hge 4).trans p4⟩, ⟨keepD _ (by omega), b.2⟩, ⟨keepP _ (by omega), d.2⟩⟩
  · rw [hlen] at hk
    dsimp only
    by_cases j1 : j < i
    · simp only [if_pos j1]
      by_cases k1 : k < i
      · simp only [if_pos k1]; exact h4 j k hjk (by omega)
      · simp only [if_neg k1]; exact h4 j (k + 1) (by omega) (by omega)
    · simp only [if_neg j1, if_neg (show ¬ k < i by omega)]; exact h4 (j + 1) (k + 1) (by omega) (by omega)
end Go.Proofs.YtkgepklapglmdaaGreatDoor
