/-
  Lemmas and contracts of single functions of this program, used by the proofs of its laws: what each call returns and what becomes of memory. Conditions: the hypotheses of each theorem.
-/
import Derived.Test.YtkgepklapglmdaaGreatDoorMillH
import Derived.Test.YtkgepklapglmdaaGreatDoorMillG
import Derived.Test.YtkgepklapglmdaaGreatDoorSlitL
namespace Go.Proofs.YtkgepklapglmdaaGreatDoor
open Go.RowKit

/-! the program's place of a new reel is the reference's -/
theorem insI_at {f : Ent} : ∀ {es : List Ent} {k : Nat}, k ≤ es.length → (∀ j, j < k → (ge es j).lb < f.lb) → (k = es.length ∨ ¬ (ge es k).lb < f.lb) → es.take k ++ f :: es.drop k = insI f es
  | [], k, hk, _, _ => by
    have : k = 0 := by simpa using hk
    subst this; rfl
  | e :: t, 0, _, _, h2 => by
    have h3 : ¬ e.lb < f.lb := by
      rcases h2 with h | h
      · simp at h
      · exact h
    rw [insI, if_neg h3]; rfl
  | e :: t, k + 1, hk, h1, h2 => by
    have h3 : e.lb < f.lb := h1 0 (by omega)
    rw [insI, if_pos h3, List.take_succ_cons, List.drop_succ_cons, List.cons_append, insI_at (es := t) (k := k) (by simpa using hk) (fun j hj => h1 (j + 1) (by omega)) (by
      rcases h2 with h | h
      · exact .inl (by simpa using h)
      · exact .inr h)]
theorem plcFrom_first (n : Int) : ∀ (xs : List Int) (k : Nat), (plcFrom xs n k = -1 ∧ ∀ x ∈ xs, x ≠ n) ∨ ∃ i : Nat, plcFrom xs n k = ((k + i : Nat) : Int) ∧ i < xs.length ∧ gi xs i = n ∧ ∀ j, j < i → gi xs j ≠ n
  | [], _ => .inl ⟨rfl, by simp⟩
  | x :: t, k => by
    rw [plcFrom]
    by_cases hx : x = n
    · rw [if_pos hx]
      exact .inr ⟨0, rfl, by simp, hx, fun j hj => by omega⟩
    · rw [if_neg hx]
      rcases plcFrom_first n t (k + 1) with ⟨h, hn⟩ | ⟨i, h, hi, hg, hj⟩
      · refine .inl ⟨h, fun y hy => ?_⟩
        rcases List.mem_cons.1 hy with rfl | hy
        · exact hx
        · exact hn y hy
      · refine .inr ⟨i + 1, by rw [h]; congr 1; omega, by simp; omega, hg, fun j hj9 => ?_⟩
        cases j with
        | zero => exact hx
        | succ j => exact hj j (by omega)
theorem lbs_gi (es : List Ent) (i : Nat) : gi (lbs es) i = (ge es i).lb := by
  simp only [gi, lbs, ge, List.getD_eq_getElem?_getD, List.getElem?_map]
  cases es[i]? <;> rfl
theorem entI_first (es : List Ent) (lb : Int) : (entI es lb = -1 ∧ ∀ e ∈ es, e.lb ≠ lb) ∨ ∃ i : Nat, entI es lb = (i : Int) ∧ i < es.length ∧ (ge es i).lb = lb ∧ ∀ j, j < i → (ge es j).lb ≠ lb := by
  rcases plcFrom_first lb (lbs es) 0 with ⟨h, hn⟩ | ⟨i, h, hi, hg, hj⟩
  · exact .inl ⟨h, fun e he => hn _ (List.mem_map.2 ⟨e, he, rfl⟩)⟩
  · refine .inr ⟨i, by show plcFrom (lbs es) lb 0 = _; rw [h, Nat.zero_add], by unfold lbs at hi; rwa [List.length_map] at hi, by rw [← lbs_gi]; exact hg, fun j hj9 => by rw [← lbs_gi]; exact hj j hj9⟩
theorem insE_split (f : Ent) : ∀ es : List Ent, ∃ k, k ≤ es.length ∧ insE f es = es.take k ++ f :: es.drop k
  | [] => ⟨0, Nat.le_refl _, rfl⟩
  | e :: t => by
    rw [insE]
    by_cases h : f.lb < e.lb
    · rw [if_pos h]; exact ⟨0, by simp, rfl⟩
    · rw [if_neg h]
      obtain ⟨k, hk, he⟩ := insE_split f t
      exact ⟨k + 1, by simp; omega, by rw [he]; rfl⟩
theorem asc_pair {es : List Ent} (h : ∀ k, k < es.length → ascE es k = true) : es.Pairwise fun a b => a.lb < b.lb := by
  have key : ∀ d i, i + d + 1 < es.length → (ge es i).lb < (ge es (i + d + 1)).lb := fun d i => by
    induction d with
    | zero =>
      intro hi
      have := h (i + 1) hi
      unfold ascE at this
      simpa using this
    | succ d ih =>
      intro hi
      have h1 := ih (by omega)
      have := h (i + d + 1 + 1) (by omega)
      unfold ascE at this
      have h2 : (ge es (i + d + 1)).lb < (ge es (i + d + 1 + 1)).lb := by simpa using this
      have e : i + (d + 1) + 1 = i + d + 1 + 1 := by omega
      rw [e]; omega
  rw [List.pairwise_iff_getElem]
  intro i j hi hj hij
  have := key (j - i - 1) i (by omega)
  rw [show i + (j - i - 1) + 1 = j by omega, ge_eq hi, ge_eq hj] at this
  exact this
theorem insE_dup {es : List Ent} {f : Ent} {a b c : Int} (h : 0 ≤ entI es f.lb) : vMill (insE f es) a b c = false := vMill_no fun hv => by
  have hp := asc_pair (es := insE f es) fun k hk => (hv.1 k hk).2
  obtain ⟨k, hk, he⟩ := insE_split f es
  rw [he, List.pairwise_append] at hp
  obtain ⟨_, h2, h3⟩ := hp
  rw [List.pairwise_cons] at h2
  rcases entI_first es f.lb with ⟨h1, _⟩ | ⟨i, _, hi, hl, _⟩
  · omega
  · have hm := ge_mem hi
    rw [← List.take_append_drop k es, List.mem_append] at hm
    rw [List.take_append_drop] at hm
    rcases hm with hm | hm
    · have := h3 _ hm f List.mem_cons_self; omega
    · have := h2.1 _ hm; omega
theorem apE_in {m : Mil} {e : Evt} (hk : e.k = 0) (hr : (1 ≤ e.r ∧ e.r ≤ 60) ∧ (1 ≤ e.t ∧ e.t ≤ 400)) (hn : entI m.es e.lb < 0) : apE m e = chk ⟨insI ⟨e.lb, e.r, e.t, [], []⟩ m.es, m.a + e.r * e.t, m.b, m.z⟩ := by
  unfold apE
  rw [if_pos hk, if_pos ⟨hr.1.1, hr.1.2, hr.2.1, hr.2.2⟩]
  rcases entI_first m.es e.lb with ⟨_, h⟩ | ⟨i, h1, _⟩
  · rw [ins_eq (es := m.es) (f := ⟨e.lb, e.r, e.t, [], []⟩) h]
  · omega
theorem apE_dup {m : Mil} {e : Evt} (hk : e.k = 0) (hn : 0 ≤ entI m.es e.lb) : apE m e = none := by
  unfold apE
  rw [if_pos hk]
  split
  · exact chk_none (insE_dup (f := ⟨e.lb, e.r, e.t, [], []⟩) hn)
  · rfl
theorem apE_out {m : Mil} {e : Evt} (hk : e.k = 0) (hr : ¬ ((1 ≤ e.r ∧ e.r ≤ 60) ∧ (1 ≤ e.t ∧ e.t ≤ 400))) : apE m e = none := by
  unfold apE
  rw [if_pos hk, if_neg fun h => hr ⟨⟨h.1, h.2.1⟩, h.2.2⟩]
theorem apE_gone {m : Mil} {e : Evt} (hk : e.k ≠ 0) (hn : entI m.es e.lb < 0) : apE m e = none := by
  unfold apE
  rw [if_neg hk, if_pos hn]
theorem Mil.ents {m : Mil} (h : m.ok = true) : ∀ k, k < m.es.length → vEnt (ge m.es k) = true := fun k hk => ((vMill_iff.1 h).1 k hk).1
/-! what an event does to the areas -/
/-- the area of the bad rolls of a reel -/
def badK (e : Ent) (g : Int) (k : Nat) : Int := ((e.ps.take k).map fun p => if g < worstL e.ds p then areaP p else 0).sum
theorem badK_succ {e : Ent} {g : Int} {k : Nat} (h : k < e.ps.length) : badK e g (k + 1) = badK e g k + if g < worstL e.ds (gr e.ps k) then areaP (gr e.ps k) else 0 := by
  unfold badK; rw [take_gr h, List.map_append, List.sum_append]; simp
theorem good_bad (e : Ent) (g : Int) : ∀ k, k ≤ e.ps.length → goodK e g k + badK e g k = areaL e.ps k
  | 0, _ => by simp [goodK, badK, areaL]
  | k + 1, hk => by
    have ih := good_bad e g k (by omega)
    have e1 : areaL e.ps (k + 1) = areaL e.ps k + areaP (gr e.ps k) := rfl
    rw [goodK_succ (by omega), badK_succ (by omega), e1]
    by_cases h : worstL e.ds (gr e.ps k) ≤ g
    · rw [if_pos h, if_neg (by omega)]; omega
    · rw [if_neg h, if_pos (by omega)]; omega
/-! a reel that comes and is shipped at once -/
/-! books -/
def Evt.row (e : Evt) : List Int := [e.k, e.lb, e.l, e.r, e.f, e.t, e.g]
def evT (evs : List Evt) : List (List Int) := evs.map Evt.row
theorem evT_len (evs : List Evt) : (evT evs).length = evs.length := by unfold evT; rw [List.length_map]
theorem evT_snoc (evs : List Evt) (e : Evt) : evT (evs ++ [e]) = evT evs ++ [[e.k, e.lb, e.l, e.r, e.f, e.t, e.g]] := by unfold evT; rw [List.map_append]; rfl
theorem runB_snoc : ∀ (m : Mil) (evs : List Evt) (e : Evt), runB m (evs ++ [e]) = (runB m evs).bind fun m' => apE m' e
  | m, [], e => by
    show (match apE m e with
      | some m' => runB m' []
      | none => none) = apE m e
    cases apE m e <;> rfl
  | m, x :: t, e => by
    rw [List.cons_append, runB, runB]
    cases apE m x with
    | none => rfl
    | some m' => exact runB_snoc m' t e
theorem runB_next {m m1 m2 : Mil} {evs : List Evt} {e : Evt} (h : runB m evs = some m1) (h2 : apE m1 e = some m2) : runB m (evs ++ [e]) = some m2 := by
  rw [runB_snoc, h]; exact h2
theorem nil_ok : Mil.nil.ok = true := by
  refine vMill_iff.2 ⟨fun k hk => absurd hk (by simp [Mil.nil]), by simp [Mil.nil], ?_, ?_, ?_, ?_⟩ <;> simp [Mil.nil, heldL]
end Go.Proofs.YtkgepklapglmdaaGreatDoor
