/-
  Lemmas and contracts of single functions of this program, used by the proofs of its laws: what each call returns and what becomes of memory. Conditions: the hypotheses of each theorem.
-/
import Derived.Test.YteckjiaaikdghaaLawR3
namespace Go.Proofs.Yteckjiaaikdghaa
open Go.RowKit

theorem gi_app {xs ys : List Int} {i : Nat} (h : i < xs.length) : gi (xs ++ ys) i = gi xs i := by
  unfold gi; rw [List.getD_eq_getElem?_getD, List.getD_eq_getElem?_getD, List.getElem?_append_left h]
theorem gi_last (xs : List Int) (y : Int) : gi (xs ++ [y]) xs.length = y := by simp [gi]
/-! the greatest value of rolls that fit into a width -/
def inF (ws vs : List Int) (f : Nat → Int) (r : Nat) : Nat → Int
  | 0 => 0
  | k + 1 => if gi ws k ≤ (r : Int) then max (inF ws vs f r k) (gi vs k + f (r - (gi ws k).toNat)) else inF ws vs f r k
def tbB (ws vs : List Int) : Nat → List Int
  | 0 => []
  | r + 1 => tbB ws vs r ++ [inF ws vs (gi (tbB ws vs r)) r ws.length]
def bvl (ws vs : List Int) (r : Nat) : Int := gi (tbB ws vs (r + 1)) r
theorem tbB_len (ws vs : List Int) : ∀ r, (tbB ws vs r).length = r
  | 0 => rfl
  | r + 1 => by rw [tbB, List.length_append, tbB_len ws vs r]; rfl
theorem tbB_gi {ws vs : List Int} {m r : Nat} (h : r < m) : gi (tbB ws vs m) r = bvl ws vs r := by
  induction m with
  | zero => omega
  | succ m ih =>
    by_cases hr : r = m
    · subst hr; rfl
    · rw [tbB, gi_app (by rw [tbB_len]; omega)]; exact ih (by omega)
theorem inF_congr {ws vs : List Int} {f g : Nat → Int} {r : Nat} (hr : ∀ j, j < r → f j = g j) : ∀ {k : Nat}, (∀ i, i < k → 1 ≤ gi ws i) → inF ws vs f r k = inF ws vs g r k
  | 0, _ => rfl
  | k + 1, hw => by
    have h1 := hw k (Nat.lt_succ_self k)
    rw [inF, inF, inF_congr hr fun i hi => hw i (by omega)]
    split
    · rw [hr _ (by omega)]
    · rfl
theorem bvl_eq {ws vs : List Int} (hw : ∀ i, i < ws.length → 1 ≤ gi ws i) (r : Nat) : bvl ws vs r = inF ws vs (bvl ws vs) r ws.length := by
  unfold bvl
  rw [tbB]
  have h : gi (tbB ws vs r ++ [inF ws vs (gi (tbB ws vs r)) r ws.length]) r = inF ws vs (gi (tbB ws vs r)) r ws.length := by
    have := gi_last (tbB ws vs r) (inF ws vs (gi (tbB ws vs r)) r ws.length)
    rwa [tbB_len] at this
  rw [h]
  exact inF_congr (fun j hj => tbB_gi hj) hw
theorem inF_ge {ws vs : List Int} {f : Nat → Int} {r : Nat} : ∀ {k i : Nat}, i < k → gi ws i ≤ (r : Int) → gi vs i + f (r - (gi ws i).toNat) ≤ inF ws vs f r k
  | k + 1, i, hi, hw => by
    rw [inF]
    by_cases h : i = k
    · subst h; rw [if_pos hw]; omega
    · have ih := inF_ge (ws := ws) (vs := vs) (f := f) (r := r) (k := k) (i := i) (by omega) hw
      split <;> omega
theorem inF_nn {ws vs : List Int} {f : Nat → Int} {r : Nat} : ∀ k, 0 ≤ inF ws vs f r k
  | 0 => Int.le_refl _
  | k + 1 => by
    have := inF_nn (ws := ws) (vs := vs) (f := f) (r := r) k
    rw [inF]; split <;> omega
theorem inF_le {ws vs : List Int} {f : Nat → Int} {r k : Nat} {b : Int} (hb : 0 ≤ b) (h : ∀ i, i < k → gi ws i ≤ (r : Int) → gi vs i + f (r - (gi ws i).toNat) ≤ b) : inF ws vs f r k ≤ b := by
  induction k with
  | zero => exact hb
  | succ k ih =>
    have h1 := ih fun i hi => h i (by omega)
    rw [inF]
    split
    · rename_i hw; have := h k (Nat.lt_succ_self k) hw; omega
    · exact h1
theorem bvl_nn {ws vs : List Int} (hw : ∀ i, i < ws.length → 1 ≤ gi ws i) (r : Nat) : 0 ≤ bvl ws vs r := by rw [bvl_eq hw]; exact inF_nn _
theorem bvl_ge {ws vs : List Int} (hw : ∀ i, i < ws.length → 1 ≤ gi ws i) {i r : Nat} (hi : i < ws.length) (hr : gi ws i ≤ (r : Int)) : gi vs i + bvl ws vs (r - (gi ws i).toNat) ≤ bvl ws vs r := by
  rw [bvl_eq hw r]; exact inF_ge hi hr
/-- no value is more than b for each lane -/
theorem bvl_le {ws vs : List Int} {b : Int} (hb : 0 ≤ b) (hw : ∀ i, i < ws.length → 1 ≤ gi ws i) (hv : ∀ i, i < ws.length → gi vs i ≤ b * gi ws i) (r : Nat) : bvl ws vs r ≤ b * r := by
  induction r using Nat.strongRecOn with
  | ind r ih =>
    rw [bvl_eq hw r]
    refine inF_le (Int.mul_nonneg hb (by omega)) fun i hi hr => ?_
    have h1 := hw i hi
    have h2 := hv i hi
    have h3 := ih (r - (gi ws i).toNat) (by omega)
    have h4 : b * gi ws i + b * ((r - (gi ws i).toNat : Nat) : Int) = b * r := by
      rw [← Int.mul_add]; congr 1; omega
    omega
theorem bvl_100 {ws vs : List Int} (hw : ∀ i, i < ws.length → 1 ≤ gi ws i) (hv : ∀ i, i < ws.length → 0 ≤ gi vs i ∧ gi vs i ≤ 100) (r : Nat) : 0 ≤ bvl ws vs r ∧ bvl ws vs r ≤ 100 * r :=
  ⟨bvl_nn hw r, bvl_le (by omega) hw (fun i hi => by have := hw i hi; have := hv i hi; omega) r⟩
/-- the counts have no more value than the best -/
theorem sum_dec {ws cs : List Int} {i : Nat} (h : i < cs.length) (k : Nat) : usedL ws (cs.set i (gi cs i - 1)) k = if i < k then usedL ws cs k - gi ws i else usedL ws cs k := by
  rw [used_set h]
  split
  · have : (gi cs i - 1) * gi ws i = gi cs i * gi ws i - gi ws i := by rw [Int.sub_mul, Int.one_mul]
    omega
  · rfl
theorem pat_value {ws vs : List Int} (hw : ∀ i, i < ws.length → 1 ≤ gi ws i) : ∀ (n : Nat) (cs : List Int) (r : Nat), cs.sum.toNat ≤ n → cs.length = ws.length → (∀ i, 0 ≤ gi cs i) → usedL ws cs ws.length ≤ r → usedL vs cs ws.length ≤ bvl ws vs r
  | 0, cs, r, hn, hl, h0, hu => by
    have hz := sumG_zero (ys := cs) (fun i _ => h0 i) (by omega)
    rw [used_zero hz]
    exact bvl_nn hw r
  | n + 1, cs, r, hn, hl, h0, hu => by
    by_cases hs : cs.sum ≤ 0
    · have hz := sumG_zero (ys := cs) (fun i _ => h0 i) hs
      rw [used_zero hz]
      exact bvl_nn hw r
    obtain ⟨i, hi, hp⟩ : ∃ i, i < ws.length ∧ 0 < gi cs i := by
      rcases Classical.em (∃ i, i < ws.length ∧ 0 < gi cs i) with h | h
      · exact h
      · exfalso
        have hall : ∀ i, i < cs.length → gi cs i = 0 := fun i hi => by
          have := h0 i
          have : ¬ 0 < gi cs i := fun h2 => h ⟨i, by omega, h2⟩
          omega
        have := sum_allz hall
        omega
    have hic : i < cs.length := by omega
    have h1 := hw i hi
    have hnn : ∀ j, j < ws.length → 0 ≤ gi (cs.set i (gi cs i - 1)) j ∧ 0 ≤ gi ws j := fun j hj => ⟨by
      by_cases e : i = j
      · subst e; rw [giG_eq hic]; omega
      · rw [giG_ne e]; exact h0 j, by have := hw j hj; omega⟩
    have hd := sum_dec (ws := ws) hic ws.length
    have hd2 := sum_dec (ws := vs) hic ws.length
    rw [if_pos hi] at hd hd2
    have hus := used_nonneg (ws := ws) (cs := cs.set i (gi cs i - 1)) (n := ws.length) hnn (m := ws.length) (Nat.le_refl _)
    have hsum := sumG_set hic (gi cs i - 1)
    have ih := pat_value (vs := vs) hw n (cs.set i (gi cs i - 1)) (r - (gi ws i).toNat) (by omega) (by rw [List.length_set]; exact hl) (fun j => by
      by_cases e : i = j
      · subst e; rw [giG_eq hic]; omega
      · rw [giG_ne e]; exact h0 j) (by omega)
    have := bvl_ge (vs := vs) hw hi (r := r) (by omega)
    omega
/-- values are valid -/
def vVal (W : Int) (ws vs : List Int) : Bool := vWid W ws && decide (vs.length = ws.length) && allR 0 100 vs
theorem vVal_iff {W : Int} {ws vs : List Int} : vVal W ws vs = true ↔ vWid W ws = true ∧ vs.length = ws.length ∧ ∀ i, i < vs.length → 0 ≤ gi vs i ∧ gi vs i ≤ 100 := by
  unfold vVal
  rw [Bool.and_eq_true, Bool.and_eq_true, decide_eq_true_eq, allR_iff]
  constructor
  · rintro ⟨⟨a, b⟩, c⟩; exact ⟨a, b, c⟩
  · rintro ⟨a, b, c⟩; exact ⟨⟨a, b⟩, c⟩
def bestL (W : Int) (ws vs : List Int) : Int := bvl ws vs W.toNat
def pbL (W : Int) (ws ns vs : List Int) : Int :=
  if vWan W ws ns = true ∧ vVal W ws vs = true then if usedL vs ns ns.length = 0 then 0 else (usedL vs ns ns.length + bestL W ws vs - 1) / bestL W ws vs else -1
theorem vPat_value {W : Int} {ws vs cs : List Int} (h : vPat W ws cs = true) : usedL vs cs ws.length ≤ bestL W ws vs := by
  obtain ⟨a, b, c, d⟩ := vPat_iff.1 h
  have hW := (vWid_iff.1 a).1
  refine pat_value (fun i hi => (vWid_w a hi).1) cs.sum.toNat cs W.toNat (Nat.le_refl _) b (gi_nn fun i hi => (c i hi).1) ?_
  rw [← b]; omega
/-- the value of all counts together -/
theorem used_col {vs : List Int} : ∀ (L : List (List Int)) (k : Nat), usedL vs ((List.range k).map (colS L)) k = (L.map fun c => usedL vs c k).sum := by
  intro L k
  have key : ∀ m, m ≤ k → usedL vs ((List.range k).map (colS L)) m = (L.map fun c => usedL vs c m).sum := by
    intro m
    induction m with
    | zero =>
      intro _
      show (0 : Int) = _
      induction L with
      | nil => rfl
      | cons x t ih => rw [List.map_cons, List.sum_cons, ← ih]; rfl
    | succ m ih =>
      intro hm
      have ih2 := ih (by omega)
      show usedL vs _ m + gi _ m * gi vs m = _
      rw [ih2, gi_map_range (show m < k by omega)]
      clear ih2 ih
      have hmk : m < k := by omega
      clear hm
      induction L with
      | nil => simp [colS]
      | cons x t iht =>
        rw [List.map_cons, List.sum_cons, List.map_cons, List.sum_cons, ← iht]
        have e : colS (x :: t) m = gi x m + colS t m := by unfold colS; rw [List.map_cons, List.sum_cons]
        rw [e, Int.add_mul]
        show _ = (usedL vs x m + gi x m * gi vs m) + _
        omega
  exact key k (Nat.le_refl _)
theorem sum_leP {b : Int} : ∀ {L : List Int}, (∀ x ∈ L, x ≤ b) → L.sum ≤ L.length * b
  | [], _ => by simp
  | x :: t, h => by
    have h1 := sum_leP (L := t) fun y hy => h y (List.mem_cons_of_mem _ hy)
    have h2 := h x List.mem_cons_self
    rw [List.sum_cons, List.length_cons, Int.natCast_succ, Int.add_mul, Int.one_mul]
    omega
theorem ceil_le {s b n : Int} (hb : 0 < b) (h : s ≤ n * b) : (s + b - 1) / b ≤ n := by
  have h1 : s + b - 1 < (n + 1) * b := by rw [Int.add_mul, Int.one_mul]; omega
  have := Int.ediv_lt_of_lt_mul hb h1
  omega
theorem ceil_ge {s b : Int} (hb : 0 < b) : s ≤ (s + b - 1) / b * b := by
  have h1 := Int.lt_ediv_add_one_mul_self (s + b - 1) hb
  rw [Int.add_mul, Int.one_mul] at h1
  omega
theorem best_pos {W : Int} {ws ns vs : List Int} (hn : vWan W ws ns = true) (hv : vVal W ws vs = true) (hs : usedL vs ns ns.length ≠ 0) : 0 < bestL W ws vs := by
  obtain ⟨a, b, c⟩ := vVal_iff.1 hv
  obtain ⟨_, e, f, _⟩ := vWan_iff.1 hn
  have hw := fun i (hi : i < ws.length) => vWid_w a hi
  have hW := (vWid_iff.1 a).1
  rcases Int.lt_or_le 0 (bestL W ws vs) with h | h
  · exact h
  exfalso
  apply hs
  have hz : ∀ i, i < ws.length → gi vs i = 0 := fun i hi => by
    have h1 := bvl_ge (vs := vs) (fun i hi => (hw i hi).1) hi (r := W.toNat) (by have := (hw i hi).2; omega)
    have h2 := bvl_nn (vs := vs) (fun i hi => (hw i hi).1) (W.toNat - (gi ws i).toNat)
    have h3 := c i (by omega)
    unfold bestL at h
    omega
  have key : ∀ k, k ≤ ws.length → usedL vs ns k = 0 := by
    intro k
    induction k with
    | zero => intro _; rfl
    | succ k ih =>
      intro hk
      show usedL vs ns k + gi ns k * gi vs k = 0
      rw [ih (by omega), hz k (by omega)]; simp
  exact key _ (by omega)
theorem used_nn {W : Int} {ws ns vs : List Int} (hn : vWan W ws ns = true) (hv : vVal W ws vs = true) : 0 ≤ usedL vs ns ns.length := by
  obtain ⟨a, b, c⟩ := vVal_iff.1 hv
  obtain ⟨_, e, f, _⟩ := vWan_iff.1 hn
  exact used_nonneg (n := ns.length) (fun i hi => ⟨(f i hi).1, (c i (by omega)).1⟩) (Nat.le_refl _)
theorem pb_greedy {W : Int} {ws ns vs : List Int} : pbL W ws ns vs ≤ (gsL W ws ns).length := by
  unfold pbL
  split
  rotate_left
  · omega
  rename_i h
  obtain ⟨hn, hv⟩ := h
  split
  · omega
  rename_i hs
  refine ceil_le (best_pos hn hv hs) ?_
  obtain ⟨a, b, c, d⟩ := vWan_iff.1 hn
  have hc : (List.range ws.length).map (colS (gsL W ws ns)) = ns := by
    apply List.ext_getElem
    · simp [b]
    · intro i h1 h2
      simp only [List.getElem_map, List.getElem_range]
      rw [gs_sum hn i, gi_eq h2]
  have h1 := used_col (vs := vs) (gsL W ws ns) ws.length
  rw [hc] at h1
  rw [b, h1]
  have h2 := sum_leP (b := bestL W ws vs) (L := (gsL W ws ns).map fun c => usedL vs c ws.length) fun x hx => by
    obtain ⟨c, hc, rfl⟩ := List.mem_map.1 hx
    exact vPat_value (gs_pat c hc)
  rw [List.length_map] at h2
  exact h2
theorem pb_rng {W : Int} {ws ns vs : List Int} : -1 ≤ pbL W ws ns vs ∧ pbL W ws ns vs ≤ 60 := by
  have h1 := pb_greedy (W := W) (ws := ws) (ns := ns) (vs := vs)
  have h2 := gsL_len W ws ns
  refine ⟨?_, by omega⟩
  unfold pbL
  split
  · rename_i h
    split
    · omega
    · rename_i hs
      have := best_pos h.1 h.2 hs
      have := used_nn h.1 h.2
      have := Int.ediv_nonneg (a := usedL vs ns ns.length + bestL W ws vs - 1) (b := bestL W ws vs) (by omega) (by omega)
      omega
  · omega
/-- widths are values -/
theorem val_widths {W : Int} {ws : List Int} (h : vWid W ws = true) : vVal W ws ws = true := by
  refine vVal_iff.2 ⟨h, rfl, fun i hi => ?_⟩
  have := vWid_w h hi
  have := (vWid_iff.1 h).2.1
  omega
theorem used_comm (a b : List Int) : ∀ k, usedL a b k = usedL b a k
  | 0 => rfl
  | k + 1 => by
    show usedL a b k + gi b k * gi a k = usedL b a k + gi a k * gi b k
    rw [used_comm a b k, Int.mul_comm]
theorem pb_widths {W : Int} {ws ns : List Int} (hn : vWan W ws ns = true) : usedL ns ws ws.length ≤ pbL W ws ns ws * W := by
  obtain ⟨a, b, c, d⟩ := vWan_iff.1 hn
  have hv := val_widths a
  have hW := (vWid_iff.1 a).1
  rw [used_comm, ← b]
  unfold pbL
  rw [if_pos ⟨hn, hv⟩]
  split
  · omega
  rename_i hs
  have hp := best_pos hn hv hs
  have h1 := ceil_ge (s := usedL ws ns ns.length) hp
  have h2 := bvl_le (ws := ws) (vs := ws) (b := 1) (by omega) (fun i hi => (vWid_w a hi).1) (fun i hi => by omega) W.toNat
  have h3 : bestL W ws ws ≤ W := by unfold bestL; omega
  have h4 : 0 ≤ (usedL ws ns ns.length + bestL W ws ws - 1) / bestL W ws ws := Int.ediv_nonneg (by have := used_nn hn hv; omega) (by omega)
  have h5 := Int.mul_le_mul_of_nonneg_left h3 h4
  omega
end Go.Proofs.Yteckjiaaikdghaa
