/-
  Lemmas and contracts of single functions of this program, used by the proofs of its laws: what each call returns and what becomes of memory. Conditions: the hypotheses of each theorem.
-/
import Derived.Test.YtkgepklapglmdaaGreatDoorMReel
namespace Go.Proofs.YtkgepklapglmdaaGreatDoor
open Go.RowKit

/-- an entry of a mill: its label, its reel, its cuts -/
structure Ent where
  lb : Int
  W : Int
  L : Int
  ds : List (List Int)
  ps : List (List Int)
def Ent.nil : Ent := ⟨0, 0, 0, [], []⟩
def ge (es : List Ent) (k : Nat) : Ent := es.getD k Ent.nil
theorem ge_eq {es : List Ent} {k : Nat} (h : k < es.length) : ge es k = es[k] := by simp [ge, h]
theorem ge_mem {es : List Ent} {k : Nat} (h : k < es.length) : ge es k ∈ es := by rw [ge_eq h]; exact List.getElem_mem h
theorem take_ge {es : List Ent} {k : Nat} (h : k < es.length) : es.take (k + 1) = es.take k ++ [ge es k] := by rw [ge_eq h]; exact List.take_succ_eq_append_getElem h
theorem ge_set {es : List Ent} {i k : Nat} {e : Ent} (h : i < es.length) : ge (es.set i e) k = if i = k then e else ge es k := by
  unfold ge
  rw [List.getD_eq_getElem?_getD, List.getElem?_set]
  by_cases hi : i = k
  · subst hi; rw [if_pos rfl, if_pos h, if_pos rfl]; rfl
  · rw [if_neg hi, if_neg hi, List.getD_eq_getElem?_getD]
theorem ge_app {es fs : List Ent} {k : Nat} (h : k < es.length) : ge (es ++ fs) k = ge es k := by
  unfold ge; rw [List.getD_eq_getElem?_getD, List.getD_eq_getElem?_getD, List.getElem?_append_left h]
theorem ge_last (es : List Ent) (e : Ent) : ge (es ++ [e]) es.length = e := by simp [ge]
/-- the five cells of the k-th entry -/
def Es5 (cs : List Value) (k : Nat) (e : Ent) (d p : Value) : Prop :=
  cs[k * 5]? = some (.int .i64 e.lb) ∧ cs[k * 5 + 1]? = some (.int .i64 e.W) ∧ cs[k * 5 + 2]? = some (.int .i64 e.L) ∧ cs[k * 5 + 3]? = some d ∧ cs[k * 5 + 4]? = some p
def E64 (e : Ent) : Prop := I64 e.lb ∧ I64 e.W ∧ I64 e.L
/-- a slice of entries that is read -/
def ES (w : World) (lo hi : Nat) (v : Value) (es : List Ent) : Prop :=
  ∃ A c cs, v = .slice A es.length c ∧ es.length ≤ c ∧ c ≤ maxLen ∧ Rd w lo hi 5 A es.length cs ∧ ∀ k, k < es.length → E64 (ge es k) ∧ ∃ d p, Es5 cs k (ge es k) d p ∧ TS w lo hi 5 d (ge es k).ds ∧ TS w lo hi 4 p (ge es k).ps
theorem ES.form {w : World} {lo hi : Nat} {v : Value} {es : List Ent} (h : ES w lo hi v es) : ∃ A c, v = .slice A es.length c ∧ es.length ≤ c ∧ c ≤ 2 ^ 63 - 1 := by
  obtain ⟨A, c, _, h1, h2, h3, _⟩ := h; exact ⟨A, c, h1, h2, by unfold maxLen at h3; omega⟩
theorem ES.kept {w w' : World} {lo hi : Nat} {v : Value} {es : List Ent} (h : ES w lo hi v es) (hk : Kept lo hi w w') : ES w' lo hi v es := by
  obtain ⟨A, c, cs, h1, h2, h3, h4, h5⟩ := h
  refine ⟨A, c, cs, h1, h2, h3, h4.kept hk, fun k hk' => ?_⟩
  obtain ⟨h6, d, p, h7, h8, h9⟩ := h5 k hk'
  exact ⟨h6, d, p, h7, h8.kept hk, h9.kept hk⟩
theorem ES.below {w w' : World} {B lo hi : Nat} {v : Value} {es : List Ent} (h : ES w lo hi v es) (hb : Below B w w') (hh : hi ≤ B) : ES w' lo hi v es := h.kept (.of_below hb hh)
theorem ES.drewN {w : World} {lo hi : Nat} {v : Value} {es : List Ent} (h : ES w lo hi v es) (n : Nat) : ES (w.drewN n) lo hi v es := h
theorem ES.wide {w : World} {lo hi lo' hi' : Nat} {v : Value} {es : List Ent} (h : ES w lo hi v es) (hl : lo' ≤ lo) (hh : hi ≤ hi') : ES w lo' hi' v es := by
  obtain ⟨A, c, cs, h1, h2, h3, h4, h5⟩ := h
  refine ⟨A, c, cs, h1, h2, h3, h4.wide hl hh, fun k hk' => ?_⟩
  obtain ⟨h6, d, p, h7, h8, h9⟩ := h5 k hk'
  exact ⟨h6, d, p, h7, h8.wide hl hh, h9.wide hl hh⟩
theorem ES.e64 {w : World} {lo hi : Nat} {v : Value} {es : List Ent} (h : ES w lo hi v es) {k : Nat} (hk : k < es.length) : E64 (ge es k) := by
  obtain ⟨_, _, _, _, _, _, _, h5⟩ := h; exact (h5 k hk).1
/-- the k-th entry's cells in memory -/
theorem ES.cell {w : World} {lo hi n c : Nat} {A : Option Addr} {es : List Ent} (h : ES w lo hi (.slice A n c) es) {k : Nat} (hk : k < es.length) :
    ∃ b o Ad cd Ap cp, A = some ⟨b, o, none⟩ ∧ lo ≤ b ∧ b < hi ∧ w.cell? ⟨b, o + k * 5, none⟩ = some (.int .i64 (ge es k).lb) ∧ w.cell? ⟨b, o + k * 5 + 1, none⟩ = some (.int .i64 (ge es k).W) ∧ w.cell? ⟨b, o + k * 5 + 2, none⟩ = some (.int .i64 (ge es k).L) ∧
      w.cell? ⟨b, o + k * 5 + 3, none⟩ = some (.slice Ad (ge es k).ds.length cd) ∧ w.cell? ⟨b, o + k * 5 + 4, none⟩ = some (.slice Ap (ge es k).ps.length cp) ∧
      TS w lo hi 5 (.slice Ad (ge es k).ds.length cd) (ge es k).ds ∧ TS w lo hi 4 (.slice Ap (ge es k).ps.length cp) (ge es k).ps ∧ (ge es k).ds.length ≤ cd ∧ cd ≤ 2 ^ 63 - 1 ∧ (ge es k).ps.length ≤ cp ∧ cp ≤ 2 ^ 63 - 1 := by
  obtain ⟨A', c', cs, e, _, _, hr, hx⟩ := h
  injection e with e1 e2 e3
  subst e1
  obtain ⟨_, d, p, ⟨q0, q1, q2, q3, q4⟩, hd, hp⟩ := hx k hk
  obtain ⟨b, o, rfl, hl, hh, hc⟩ := hr.2 (by omega)
  obtain ⟨Ad, cd, rfl, m1, m2⟩ := hd.form
  obtain ⟨Ap, cp, rfl, m3, m4⟩ := hp.form
  exact ⟨b, o, Ad, cd, Ap, cp, rfl, hl, hh, hc _ _ q0, hc _ _ q1, hc _ _ q2, hc _ _ q3, hc _ _ q4, hd, hp, m1, m2, m3, m4⟩
/-- the labels alone, where the address is known -/
theorem ES.lbl {w : World} {lo hi n c b o : Nat} {es : List Ent} (h : ES w lo hi (.slice (some ⟨b, o, none⟩) n c) es) {k : Nat} (hk : k < es.length) : w.cell? ⟨b, o + k * 5, none⟩ = some (.int .i64 (ge es k).lb) := by
  obtain ⟨b', o', _, _, _, _, e, _, _, h0, _⟩ := h.cell hk
  injection e with e1
  injection e1 with e2 e3
  subst e2; subst e3; exact h0

/-- entries that the call owns, all in blocks base .. s-1; no two of them share memory -/
def OwnE (w : World) (base s tE tD tP : Nat) (v : Value) (es : List Ent) : Prop :=
  ∃ (cs : List Value) (vd vp : Nat → Value), w.ownsRow base tE 5 v es.length cs ∧ (∀ g, v.ownBlock = some g → g < s) ∧
    (∀ k, k < es.length → E64 (ge es k) ∧ Es5 cs k (ge es k) (vd k) (vp k) ∧ (OwnT w base tD 5 (vd k) (ge es k).ds ∧ ∀ g, (vd k).ownBlock = some g → g < s) ∧ (OwnT w base tP 4 (vp k) (ge es k).ps ∧ ∀ g, (vp k).ownBlock = some g → g < s)) ∧
    (∀ j k, j < k → k < es.length → (∀ g, (vd j).ownBlock = some g → (vd k).ownBlock = some g → False) ∧ (∀ g, (vp j).ownBlock = some g → (vp k).ownBlock = some g → False))
theorem OwnE.nil (w : World) (base s tE tD tP : Nat) : OwnE w base s tE tD tP (.slice none 0 0) [] :=
  ⟨[], fun _ => undef, fun _ => undef, World.ownsRow_nil _ _ _ _, fun g h => by simp [Value.ownBlock] at h, fun k h => absurd h (by simp), fun _ k _ h => absurd h (by simp)⟩
theorem OwnE.es {w : World} {base s tE tD tP : Nat} {v : Value} {es : List Ent} (h : OwnE w base s tE tD tP v es) : ES w base s v es := by
  obtain ⟨cs, vd, vp, ⟨hl, hv⟩, hs, hx, _⟩ := h
  rcases hv with ⟨rfl, hn⟩ | ⟨g, cap, cur, rfl, hb, hg, hc, hm, hsz, ht⟩
  · have : es = [] := List.eq_nil_of_length_eq_zero hn
    subst this
    exact ⟨none, 0, cs, rfl, by simp, by simp [maxLen], ⟨hl, fun h => absurd h (by simp)⟩, fun k hk => absurd hk (by simp)⟩
  · refine ⟨some ⟨g, 0, none⟩, cap, cs, rfl, hc, hm, ⟨hl, fun _ => ⟨g, 0, rfl, hb, hs g rfl, fun j u hu => ?_⟩⟩, fun k hk => ?_⟩
    · rw [Nat.zero_add, cell_of_row w g j cur tE (0, 0) hg, ← Array.getElem?_toList]
      rw [← ht, List.getElem?_take] at hu
      split at hu
      · exact hu
      · cases hu
    · obtain ⟨h1, h2, h3, h4⟩ := hx k hk
      exact ⟨h1, vd k, vp k, h2, h3.1.ts_at h3.2, h4.1.ts_at h4.2⟩
theorem OwnE.form {w : World} {base s tE tD tP : Nat} {v : Value} {es : List Ent} (h : OwnE w base s tE tD tP v es) : ∃ A c, v = .slice A es.length c ∧ es.length ≤ c ∧ c ≤ 2 ^ 63 - 1 := h.es.form
theorem OwnE.kept {w w' : World} {base s tE tD tP : Nat} {v : Value} {es : List Ent} (h : OwnE w base s tE tD tP v es) (hk : Kept base s w w') : OwnE w' base s tE tD tP v es := by
  obtain ⟨cs, vd, vp, h1, h2, h3, h4⟩ := h
  refine ⟨cs, vd, vp, ownsRow_keptBlock h1 fun g hg => hk g (h1.lt g hg).1 (h2 g hg), h2, fun k hkl => ?_, h4⟩
  obtain ⟨a, b, c, d⟩ := h3 k hkl
  exact ⟨a, b, ⟨c.1.keptBlock fun g hg => hk g (c.1.lt g hg).1 (c.2 g hg), c.2⟩, ⟨d.1.keptBlock fun g hg => hk g (d.1.lt g hg).1 (d.2 g hg), d.2⟩⟩
theorem OwnE.below {w w' : World} {B base s tE tD tP : Nat} {v : Value} {es : List Ent} (h : OwnE w base s tE tD tP v es) (hb : Below B w w') (hs : s ≤ B) : OwnE w' base s tE tD tP v es := h.kept (.of_below hb hs)
theorem OwnE.wide {w : World} {base s base' s' tE tD tP : Nat} {v : Value} {es : List Ent} (h : OwnE w base s tE tD tP v es) (hb : base' ≤ base) (hs : s ≤ s') : OwnE w base' s' tE tD tP v es := by
  obtain ⟨cs, vd, vp, h1, h2, h3, h4⟩ := h
  refine ⟨cs, vd, vp, ownsRow_base h1 hb, fun g hg => Nat.lt_of_lt_of_le (h2 g hg) hs, fun k hkl => ?_, h4⟩
  obtain ⟨a, b, c, d⟩ := h3 k hkl
  exact ⟨a, b, ⟨c.1.base hb, fun g hg => Nat.lt_of_lt_of_le (c.2 g hg) hs⟩, ⟨d.1.base hb, fun g hg => Nat.lt_of_lt_of_le (d.2 g hg) hs⟩⟩
theorem OwnE.lt {w : World} {base s tE tD tP : Nat} {v : Value} {es : List Ent} (h : OwnE w base s tE tD tP v es) : ∀ g, v.ownBlock = some g → base ≤ g ∧ g < s ∧ g < w.heap.size := by
  obtain ⟨cs, vd, vp, h1, h2, _⟩ := h
  exact fun g hg => ⟨(h1.lt g hg).1, h2 g hg, (h1.lt g hg).2⟩
/-- a made list of n entries -/
theorem OwnE.made {w : World} {base tE tD tP n c : Nat} {A : Option Addr} (h : w.ownsRow base tE 5 (.slice A n c) n (madeCells (Value.cells (.agg #[.int .i64 0, .int .i64 0, .int .i64 0, .slice none 0 0, .slice none 0 0])) (n * 5)).toList) : OwnE w base w.heap.size tE tD tP (.slice A n c) (List.replicate n Ent.nil) := by
  have hge : ∀ k, k < n → ge (List.replicate n Ent.nil) k = Ent.nil := fun k hk => by unfold ge; rw [List.getD_eq_getElem?_getD, List.getElem?_replicate, if_pos hk]; rfl
  refine ⟨_, fun _ => .slice none 0 0, fun _ => .slice none 0 0, by rw [List.length_replicate]; exact h, fun g hg => (h.lt g hg).2, fun k hk => ?_, fun _ _ _ _ => ⟨fun g hg => by simp [Value.ownBlock] at hg, fun g hg => by simp [Value.ownBlock] at hg⟩⟩
  rw [List.length_replicate] at hk
  rw [hge k hk]
  have hat : ∀ j, j < 5 → (madeCells (Value.cells (.agg #[.int .i64 0, .int .i64 0, .int .i64 0, .slice none 0 0, .slice none 0 0])) (n * 5)).toList[k * 5 + j]? = some ((#[Value.int .i64 0, .int .i64 0, .int .i64 0, .slice none 0 0, .slice none 0 0] : Array Value)[j]!) := by
    intro j hj
    have hlt : k * 5 + j < n * 5 := by omega
    have e : (k * 5 + j) % 5 = j := by omega
    simp [madeCells, Value.cells, hlt, e]
  refine ⟨⟨⟨by simp [Ent.nil], by simp [Ent.nil]⟩, ⟨by simp [Ent.nil], by simp [Ent.nil]⟩, ⟨by simp [Ent.nil], by simp [Ent.nil]⟩⟩, ⟨hat 0 (by omega), hat 1 (by omega), hat 2 (by omega), hat 3 (by omega), hat 4 (by omega)⟩, ⟨OwnT.nil _ _ _ _, fun g hg => by simp [Value.ownBlock] at hg⟩, ⟨OwnT.nil _ _ _ _, fun g hg => by simp [Value.ownBlock] at hg⟩⟩
theorem es5_set {cs : List Value} {k i : Nat} {e f : Ent} {d p d' p' : Value} (h : Es5 cs k e d p) (hi : i * 5 + 4 < cs.length) :
    Es5 (((((cs.set (i * 5) (.int .i64 f.lb)).set (i * 5 + 1) (.int .i64 f.W)).set (i * 5 + 2) (.int .i64 f.L)).set (i * 5 + 3) d').set (i * 5 + 4) p') k (if i = k then f else e) (if i = k then d' else d) (if i = k then p' else p) := by
  obtain ⟨h0, h1, h2, h3, h4⟩ := h
  unfold Es5
  by_cases e : i = k
  · subst e
    simp only [List.getElem?_set, List.length_set, if_true]
    refine ⟨?_, ?_, ?_, ?_, ?_⟩ <;> simp <;> omega
  · simp only [if_neg e]
    refine ⟨?_, ?_, ?_, ?_, ?_⟩
    all_goals
      rw [List.getElem?_set_ne (by omega), List.getElem?_set_ne (by omega), List.getElem?_set_ne (by omega), List.getElem?_set_ne (by omega), List.getElem?_set_ne (by omega)]
      assumption
/-- 'out[i] = e': its slices were made behind block s -/
theorem OwnE.put {w : World} {base s s' tE tD tP n c : Nat} {A : Option Addr} {es : List Ent} {f : Ent} {d p : Value} (h : OwnE w base s tE tD tP (.slice A n c) es) (hD : tE ≠ tD) (hP : tE ≠ tP) (h64 : E64 f) (hd : OwnT w s tD 5 d f.ds) (hp : OwnT w s tP 4 p f.ps) (hb : base ≤ s) (hs : s ≤ s') (hw : w.heap.size ≤ s') {i : Nat} (hi : i < es.length) :
    ∃ g, A = some ⟨g, 0, none⟩ ∧ base ≤ g ∧ g < s ∧ (∀ j, j < 5 → (∃ x, w.cell? ⟨g, i * 5 + j, none⟩ = some x) ∧ w.frozen? ⟨g, i * 5 + j, none⟩ = false) ∧
      OwnE (((((w.setCell ⟨g, i * 5, none⟩ (.int .i64 f.lb)).setCell ⟨g, i * 5 + 1, none⟩ (.int .i64 f.W)).setCell ⟨g, i * 5 + 2, none⟩ (.int .i64 f.L)).setCell ⟨g, i * 5 + 3, none⟩ d).setCell ⟨g, i * 5 + 4, none⟩ p) base s' tE tD tP (.slice A n c) (es.set i f) := by
  obtain ⟨cs, vd, vp, h1, h2, h3, h4⟩ := h
  have hcl := h1.1
  have hg : ∃ g, A = some ⟨g, 0, none⟩ := by
    rcases h1.2 with ⟨e, h0⟩ | ⟨g, cap, cur, e, _⟩
    · omega
    · injection e with e1; exact ⟨g, e1⟩
  obtain ⟨g, rfl⟩ := hg
  have hn : n = es.length := by
    rcases h1.2 with ⟨e, h0⟩ | ⟨g', cap, cur, e, _⟩
    · exact absurd e (by simp)
    · injection e
  subst hn
  have hlt := h1.lt g rfl
  have hg2 := h2 g rfl
  refine ⟨g, rfl, hlt.1, hg2, fun j hj => ⟨⟨cs[i * 5 + j]'(by omega), by rw [h1.cellAt (i * 5 + j) (by omega)]; exact List.getElem?_eq_getElem (by omega)⟩, h1.frozenAt _⟩, ?_⟩
  have s1 := (h1.stored (i * 5) (.int .i64 f.lb)).1
  have s2 := (s1.stored (i * 5 + 1) (.int .i64 f.W)).1
  have s3 := (s2.stored (i * 5 + 2) (.int .i64 f.L)).1
  have s4 := (s3.stored (i * 5 + 3) d).1
  have s5 := (s4.stored (i * 5 + 4) p).1
  have far : ∀ (u : Value) (t k : Nat) (xs : List (List Int)) (b : Nat), OwnT w b t k u xs → tE ≠ t → OwnT (((((w.setCell ⟨g, i * 5, none⟩ (.int .i64 f.lb)).setCell ⟨g, i * 5 + 1, none⟩ (.int .i64 f.W)).setCell ⟨g, i * 5 + 2, none⟩ (.int .i64 f.L)).setCell ⟨g, i * 5 + 3, none⟩ d).setCell ⟨g, i * 5 + 4, none⟩ p) b t k u xs := by
    intro u t k xs b hu hne
    refine hu.keptBlock fun g' hg' => ?_
    have : ¬ g = g' := fun e => by
      subst e
      exact own_types h1 hu.1 hne (g := g) rfl hg'
    simp only [World.setCell, Array.getElem?_modify, if_neg this]
  refine ⟨_, fun k => if i = k then d else vd k, fun k => if i = k then p else vp k, by rw [List.length_set]; simpa using s5, fun g' hg' => Nat.lt_of_lt_of_le (h2 g' hg') hs, fun k hk => ?_, fun j k hjk hk => ?_⟩
  · rw [List.length_set] at hk
    obtain ⟨a, b, c1, c2⟩ := h3 k hk
    have b' := es5_set (f := f) (d' := d) (p' := p) b (i := i) (by omega)
    rw [ge_set hi]
    refine ⟨by split <;> assumption, b', ?_, ?_⟩
    · by_cases e : i = k
      · simp only [if_pos e]
        exact ⟨(far d tD 5 _ _ hd hD).base hb, fun g' hg' => Nat.lt_of_lt_of_le (hd.lt g' hg').2 hw⟩
      · simp only [if_neg e]
        exact ⟨far _ _ _ _ _ c1.1 hD, fun g' hg' => Nat.lt_of_lt_of_le (c1.2 g' hg') hs⟩
    · by_cases e : i = k
      · simp only [if_pos e]
        exact ⟨(far p tP 4 _ _ hp hP).base hb, fun g' hg' => Nat.lt_of_lt_of_le (hp.lt g' hg').2 hw⟩
      · simp only [if_neg e]
        exact ⟨far _ _ _ _ _ c2.1 hP, fun g' hg' => Nat.lt_of_lt_of_le (c2.2 g' hg') hs⟩
  · rw [List.length_set] at hk
    have hold := h4 j k hjk hk
    have oj := h3 j (by omega)
    have ok := h3 k hk
    constructor
    · intro g' a b
      by_cases ej : i = j
      · have ek : ¬ i = k := by omega
        simp only [if_pos ej] at a
        simp only [if_neg ek] at b
        have := (hd.lt g' a).1
        have := ok.2.2.1.2 g' b
        omega
      · simp only [if_neg ej] at a
        by_cases ek : i = k
        · simp only [if_pos ek] at b
          have := (hd.lt g' b).1
          have := oj.2.2.1.2 g' a
          omega
        · simp only [if_neg ek] at b
          exact hold.1 g' a b
    · intro g' a b
      by_cases ej : i = j
      · have ek : ¬ i = k := by omega
        simp only [if_pos ej] at a
        simp only [if_neg ek] at b
        have := (hp.lt g' a).1
        have := ok.2.2.2.2 g' b
        omega
      · simp only [if_neg ej] at a
        by_cases ek : i = k
        · simp only [if_pos ek] at b
          have := (hp.lt g' b).1
          have := oj.2.2.2.2 g' a
          omega
        · simp only [if_neg ek] at b
          exact hold.2 g' a b
/-- what the mill's rules ask of an entry; of a mill -/
def vEnt (e : Ent) : Bool := decide (1 ≤ e.lb) && decide (e.lb ≤ 9999) && vCuts e.W e.L e.ds e.ps
def heldL (es : List Ent) : Int := es.foldl (fun n e => n + e.W * e.L) 0
def ascE (es : List Ent) (k : Nat) : Bool := decide (k = 0) || decide ((ge es (k - 1)).lb < (ge es k).lb)
def entsOk (es : List Ent) : Bool := (List.range es.length).all fun k => vEnt (ge es k) && ascE es k
def vMill (es : List Ent) (a b c : Int) : Bool := entsOk es && decide (es.length ≤ 12) && (decide (0 ≤ a) && decide (a ≤ 900000)) && (decide (0 ≤ b) && decide (b ≤ 900000)) && (decide (0 ≤ c) && decide (c ≤ 900000)) && decide (heldL es + b + c = a)
theorem vMill_iff {es : List Ent} {a b c : Int} : vMill es a b c = true ↔ (∀ k, k < es.length → vEnt (ge es k) = true ∧ ascE es k = true) ∧ es.length ≤ 12 ∧ (0 ≤ a ∧ a ≤ 900000) ∧ (0 ≤ b ∧ b ≤ 900000) ∧ (0 ≤ c ∧ c ≤ 900000) ∧ heldL es + b + c = a := by
  unfold vMill entsOk
  simp only [Bool.and_eq_true, decide_eq_true_eq, List.all_eq_true, List.mem_range, and_assoc]
theorem vMill_no {es : List Ent} {a b c : Int} (h : ¬ ((∀ k, k < es.length → vEnt (ge es k) = true ∧ ascE es k = true) ∧ es.length ≤ 12 ∧ (0 ≤ a ∧ a ≤ 900000) ∧ (0 ≤ b ∧ b ≤ 900000) ∧ (0 ≤ c ∧ c ≤ 900000) ∧ heldL es + b + c = a)) : vMill es a b c = false := by
  cases hv : vMill es a b c
  · rfl
  · exact absurd (vMill_iff.1 hv) h
theorem vMill_ent {es : List Ent} {a b c : Int} {k : Nat} (hk : k < es.length) (h : vEnt (ge es k) = false ∨ ascE es k = false) : vMill es a b c = false := by
  refine vMill_no fun hh => ?_
  have := hh.1 k hk
  rcases h with h | h
  · rw [h] at this; cases this.1
  · rw [h] at this; cases this.2
theorem vEnt_iff {e : Ent} : vEnt e = true ↔ 1 ≤ e.lb ∧ e.lb ≤ 9999 ∧ vCuts e.W e.L e.ds e.ps = true := by
  unfold vEnt; simp only [Bool.and_eq_true, decide_eq_true_eq, and_assoc]
theorem held_succ {es : List Ent} {k : Nat} (h : k < es.length) : heldL (es.take (k + 1)) = heldL (es.take k) + (ge es k).W * (ge es k).L := by
  unfold heldL; rw [take_ge h, List.foldl_append]; rfl
/-- the areas of k valid entries -/
theorem held_rng {es : List Ent} (h : ∀ k, k < es.length → vEnt (ge es k) = true) : ∀ k, k ≤ es.length → 0 ≤ heldL (es.take k) ∧ heldL (es.take k) ≤ 24000 * k
  | 0, _ => ⟨by simp [heldL], by simp [heldL]⟩
  | k + 1, hk => by
    have ih := held_rng h k (by omega)
    rw [held_succ (by omega)]
    have hr := vReel_rng (vCuts_iff.1 (vEnt_iff.1 (h k (by omega))).2.2).1
    have m0 : 0 ≤ (ge es k).W * (ge es k).L := Int.mul_nonneg (by omega) (by omega)
    have m1 : (ge es k).W * (ge es k).L ≤ 60 * 400 := Int.mul_le_mul (by omega) (by omega) (by omega) (by omega)
    omega
theorem area_rng {e : Ent} (h : vEnt e = true) : 0 ≤ e.W * e.L ∧ e.W * e.L ≤ 24000 := by
  have hr := vReel_rng (vCuts_iff.1 (vEnt_iff.1 h).2.2).1
  have m0 : 0 ≤ e.W * e.L := Int.mul_nonneg (by omega) (by omega)
  have m1 : e.W * e.L ≤ 60 * 400 := Int.mul_le_mul (by omega) (by omega) (by omega) (by omega)
  omega
end Go.Proofs.YtkgepklapglmdaaGreatDoor
