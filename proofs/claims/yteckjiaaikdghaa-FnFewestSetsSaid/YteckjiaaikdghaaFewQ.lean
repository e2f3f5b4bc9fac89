/-
  Lemmas and contracts of single functions of this program, used by the proofs of its laws: what each call returns and what becomes of memory. Conditions: the hypotheses of each theorem.
-/
import Derived.Test.YteckjiaaikdghaaFewP
namespace Go.Proofs.Yteckjiaaikdghaa
open Go.RowKit

/-! the fewest sets, state by state -/
def leN (ns : List Int) (q s : Int) : Bool := (List.range ns.length).all fun i => decide (dAt ns q i ≤ dAt ns s i)
theorem leN_iff {ns : List Int} {q s : Int} : leN ns q s = true ↔ ∀ i, i < ns.length → dAt ns q i ≤ dAt ns s i := by
  unfold leN
  rw [List.all_eq_true]
  exact ⟨fun h i hi => of_decide_eq_true (h i (List.mem_range.2 hi)), fun h i hi => decide_eq_true (h i (List.mem_range.1 hi))⟩
def okN (W : Int) (ws ns : List Int) (q s : Int) : Bool := leN ns q s && vPat W ws (cAt ns q)
def inG (W : Int) (ws ns : List Int) (f : Nat → Int) (s : Nat) : Nat → Int
  | 0 => 8
  | m + 1 => if okN W ws ns ((m + 1 : Nat) : Int) s = true then min (inG W ws ns f s m) (1 + f (s - (m + 1))) else inG W ws ns f s m
def tbG (W : Int) (ws ns : List Int) : Nat → List Int
  | 0 => []
  | s + 1 => tbG W ws ns s ++ [if s = 0 then 0 else inG W ws ns (gi (tbG W ws ns s)) s s]
def fwN (W : Int) (ws ns : List Int) (s : Nat) : Int := gi (tbG W ws ns (s + 1)) s
theorem tbG_len (W : Int) (ws ns : List Int) : ∀ s, (tbG W ws ns s).length = s
  | 0 => rfl
  | s + 1 => by rw [tbG, List.length_append, tbG_len W ws ns s]; rfl
theorem tbG_gi {W : Int} {ws ns : List Int} {m s : Nat} (h : s < m) : gi (tbG W ws ns m) s = fwN W ws ns s := by
  induction m with
  | zero => omega
  | succ m ih =>
    by_cases hr : s = m
    · subst hr; rfl
    · rw [tbG, gi_app (by rw [tbG_len]; omega)]; exact ih (by omega)
theorem inG_congr {W : Int} {ws ns : List Int} {f g : Nat → Int} {s : Nat} (h : ∀ j, j < s → f j = g j) (hs : 0 < s) : ∀ m, inG W ws ns f s m = inG W ws ns g s m
  | 0 => rfl
  | m + 1 => by rw [inG, inG, inG_congr h hs m, h (s - (m + 1)) (by omega)]
theorem fwN_zero (W : Int) (ws ns : List Int) : fwN W ws ns 0 = 0 := rfl
theorem fwN_eq {W : Int} {ws ns : List Int} {s : Nat} (hs : 0 < s) : fwN W ws ns s = inG W ws ns (fwN W ws ns) s s := by
  have h : fwN W ws ns s = if s = 0 then 0 else inG W ws ns (gi (tbG W ws ns s)) s s := by
    have := gi_last (tbG W ws ns s) (if s = 0 then 0 else inG W ws ns (gi (tbG W ws ns s)) s s)
    rw [tbG_len] at this
    exact this
  rw [h, if_neg (by omega)]
  exact inG_congr (fun j hj => tbG_gi hj) hs s
theorem inG_rng {W : Int} {ws ns : List Int} {f : Nat → Int} {s : Nat} (h : ∀ j, j < s → 0 ≤ f j) (hs : 0 < s) : ∀ m, 0 ≤ inG W ws ns f s m ∧ inG W ws ns f s m ≤ 8
  | 0 => ⟨by show (0 : Int) ≤ 8; omega, Int.le_refl _⟩
  | m + 1 => by
    have ih := inG_rng (W := W) (ws := ws) (ns := ns) h hs m
    have := h (s - (m + 1)) (by omega)
    rw [inG]; split <;> omega
theorem fwN_rng (W : Int) (ws ns : List Int) (s : Nat) : 0 ≤ fwN W ws ns s ∧ fwN W ws ns s ≤ 8 := by
  induction s using Nat.strongRecOn with
  | ind s ih =>
    by_cases hs : s = 0
    · subst hs; rw [fwN_zero]; omega
    · rw [fwN_eq (by omega)]
      exact inG_rng (fun j hj => (ih j hj).1) (by omega) s
theorem inG_le {W : Int} {ws ns : List Int} {f : Nat → Int} {s q : Nat} : ∀ {m : Nat}, 1 ≤ q → q ≤ m → okN W ws ns q s = true → inG W ws ns f s m ≤ 1 + f (s - q)
  | 0, h1, h2, _ => by omega
  | m + 1, h1, h2, hok => by
    rw [inG]
    by_cases hq : q = m + 1
    · subst hq; rw [if_pos hok]; omega
    · have ih := inG_le (W := W) (ws := ws) (ns := ns) (f := f) (s := s) (q := q) (m := m) h1 (by omega) hok
      split <;> omega
theorem inG_cases {W : Int} {ws ns : List Int} {f : Nat → Int} {s : Nat} : ∀ m, inG W ws ns f s m = 8 ∨ ∃ q, 1 ≤ q ∧ q ≤ m ∧ okN W ws ns (q : Nat) s = true ∧ inG W ws ns f s m = 1 + f (s - q)
  | 0 => .inl rfl
  | m + 1 => by
    rw [inG]
    have ih := inG_cases (W := W) (ws := ws) (ns := ns) (f := f) (s := s) m
    by_cases hok : okN W ws ns ((m + 1 : Nat) : Int) s = true
    · rw [if_pos hok]
      by_cases hm : inG W ws ns f s m ≤ 1 + f (s - (m + 1))
      · rw [Int.min_eq_left hm]
        rcases ih with ih | ⟨q, a, b, c, d⟩
        · exact .inl ih
        · exact .inr ⟨q, a, by omega, c, d⟩
      · rw [Int.min_eq_right (by omega)]
        exact .inr ⟨m + 1, by omega, Nat.le_refl _, hok, rfl⟩
    · rw [if_neg hok]
      rcases ih with ih | ⟨q, a, b, c, d⟩
      · exact .inl ih
      · exact .inr ⟨q, a, by omega, c, d⟩
/-- patterns have all counts together -/
abbrev CovN (W : Int) (ws : List Int) (c : Nat → Int) (L : List (List Int)) : Prop := (∀ p ∈ L, vPat W ws p = true) ∧ ∀ i, i < ws.length → c i ≤ colS L i
theorem colS_cons (p : List Int) (L : List (List Int)) (i : Nat) : colS (p :: L) i = gi p i + colS L i := by unfold colS; rw [List.map_cons, List.sum_cons]
theorem pat_zero {W : Int} {ws : List Int} (h : vWid W ws = true) : vPat W ws (List.replicate ws.length 0) = true := by
  have := (vWid_iff.1 h).1
  refine vPat_mk h (by simp) (fun i _ => by rw [gi_rep]; omega) ?_
  rw [used_zero fun i => gi_rep _ i]; omega
theorem pat_one {W : Int} {ws : List Int} (h : vWid W ws = true) {i : Nat} (hi : i < ws.length) : vPat W ws ((List.replicate ws.length 0).set i 1) = true := by
  have h1 := vWid_w h hi
  have hil : i < (List.replicate ws.length (0 : Int)).length := by simpa using hi
  refine vPat_mk h (by simp) (fun j _ => ?_) ?_
  · by_cases e : i = j
    · subst e; rw [giG_eq hil]; omega
    · rw [giG_ne e, gi_rep]; omega
  · rw [used_set hil, List.length_set, List.length_replicate, if_pos hi, used_zero fun i => gi_rep _ i, gi_rep]; omega
/-- single rolls -/
theorem cov_single {W : Int} {ws : List Int} (h : vWid W ws = true) : ∀ (m : Nat) (c : List Int), c.length = ws.length → (∀ i, 0 ≤ gi c i) → c.sum ≤ m → ∃ L, L.length = m ∧ CovN W ws (gi c) L
  | 0, c, hl, h0, hs => ⟨[], rfl, ⟨fun p hp => (by cases hp), fun i hi => (by rw [sumG_zero (ys := c) (fun i _ => h0 i) (by omega) i]; exact Int.le_refl _)⟩⟩
  | m + 1, c, hl, h0, hs => by
    rcases Classical.em (∃ i, i < ws.length ∧ 0 < gi c i) with ⟨i, hi, hp⟩ | hn
    · have hic : i < c.length := by omega
      have hil : i < (List.replicate ws.length (0 : Int)).length := by simpa using hi
      obtain ⟨L, hL, h1, h2⟩ := cov_single h m (c.set i (gi c i - 1)) (by rw [List.length_set]; exact hl) (fun j => by
        by_cases e : i = j
        · subst e; rw [giG_eq hic]; omega
        · rw [giG_ne e]; exact h0 j) (by rw [sumG_set hic]; omega)
      refine ⟨(List.replicate ws.length 0).set i 1 :: L, by rw [List.length_cons, hL], fun p hp => ?_, fun j hj => ?_⟩
      · rcases List.mem_cons.1 hp with rfl | hp
        · exact pat_one h hi
        · exact h1 p hp
      · rw [colS_cons]
        have h3 := h2 j hj
        by_cases e : i = j
        · subst e; rw [giG_eq hil]; rw [giG_eq hic] at h3; omega
        · rw [giG_ne e, gi_rep]; rw [giG_ne e] at h3; omega
    · obtain ⟨L, hL, h1, h2⟩ := cov_single h m c hl h0 (by
        have : c.sum = 0 := sum_allz fun i hi => by
          have := h0 i
          have : ¬ 0 < gi c i := fun h2 => hn ⟨i, by omega, h2⟩
          omega
        omega)
      refine ⟨List.replicate ws.length 0 :: L, by rw [List.length_cons, hL], fun p hp => ?_, fun j hj => ?_⟩
      · rcases List.mem_cons.1 hp with rfl | hp
        · exact pat_zero h
        · exact h1 p hp
      · rw [colS_cons, gi_rep]
        have := h2 j hj
        omega
theorem sumI_mono {a b : List Int} (h : ∀ i, gi a i ≤ gi b i) : ∀ k, sumI a k ≤ sumI b k
  | 0 => Int.le_refl _
  | k + 1 => by have := sumI_mono h k; have := h k; show sumI a k + gi a k ≤ sumI b k + gi b k; omega
theorem cAt_all {ns : List Int} (h : ∀ i, 0 ≤ gi ns i) (q : Int) (i : Nat) : 0 ≤ gi (cAt ns q) i ∧ gi (cAt ns q) i ≤ gi ns i := by
  by_cases hi : i < ns.length
  · rw [cAt_gi hi]; exact dAt_rng h q i
  · have : gi (cAt ns q) i = 0 := by unfold gi; rw [List.getD_eq_getElem?_getD, List.getElem?_eq_none (by rw [cAt_len]; omega)]; rfl
    rw [this]; exact ⟨Int.le_refl _, h i⟩
theorem cAt_sum {ns : List Int} (h : ∀ i, 0 ≤ gi ns i) (q : Int) : (cAt ns q).sum ≤ ns.sum := by
  rw [← sumI_all, ← sumI_all, cAt_len]
  exact sumI_mono (fun i => (cAt_all h q i).2) _
/-- wants of the exact search -/
def vFew (W : Int) (ws ns : List Int) : Bool := vWan W ws ns && decide (W ≤ 24) && decide (ns.sum ≤ 8)
theorem vFew_iff {W : Int} {ws ns : List Int} : vFew W ws ns = true ↔ vWan W ws ns = true ∧ W ≤ 24 ∧ ns.sum ≤ 8 := by
  unfold vFew
  rw [Bool.and_eq_true, Bool.and_eq_true, decide_eq_true_eq, decide_eq_true_eq]
  exact ⟨fun ⟨⟨a, b⟩, c⟩ => ⟨a, b, c⟩, fun ⟨a, b, c⟩ => ⟨⟨a, b⟩, c⟩⟩
def fwL (W : Int) (ws ns : List Int) : Int := if vFew W ws ns = true then fwN W ws ns (stN ns ns.length - 1).toNat else -1
theorem few_nn {W : Int} {ws ns : List Int} (h : vFew W ws ns = true) (i : Nat) : 0 ≤ gi ns i :=
  gi_nn (fun i hi => ((vWan_iff.1 (vFew_iff.1 h).1).2.2.1 i hi).1) i
/-- so many sets are enough -/
theorem fw_cov {W : Int} {ws ns : List Int} (h : vFew W ws ns = true) (s : Nat) (hS : (s : Int) < stN ns ns.length) : ∃ L : List (List Int), (L.length : Int) = fwN W ws ns s ∧ CovN W ws (dAt ns s) L := by
  obtain ⟨hv, hW, h8⟩ := vFew_iff.1 h
  obtain ⟨hd, hl, hr, _⟩ := vWan_iff.1 hv
  have h0 := few_nn h
  induction s using Nat.strongRecOn with
  | ind s ih =>
    by_cases hs : s = 0
    · subst hs
      refine ⟨[], rfl, ⟨fun p hp => (by cases hp), fun i hi => ?_⟩⟩
      have h1 : ∀ k, nAt ns ((0 : Nat) : Int) k = 0 := fun k => by
        have := nAt_nn h0 (show (0 : Int) ≤ ((0 : Nat) : Int) by omega) k
        omega
      unfold dAt
      rw [h1]; simp [colS]
    · rw [fwN_eq (by omega)]
      rcases inG_cases (W := W) (ws := ws) (ns := ns) (f := fwN W ws ns) (s := s) s with e | ⟨q, hq1, hqs, hok, e⟩
      · rw [e]
        obtain ⟨L, hL, h1, h2⟩ := cov_single hd 8 (cAt ns s) (by rw [cAt_len]; exact hl) (fun i => (cAt_all h0 s i).1) (by have := cAt_sum h0 s; omega)
        exact ⟨L, by omega, h1, fun i hi => by rw [← cAt_gi (by omega)]; exact h2 i hi⟩
      · rw [e]
        obtain ⟨L, hL, h1, h2⟩ := ih (s - q) (by omega) (by omega)
        unfold okN at hok
        rw [Bool.and_eq_true, leN_iff] at hok
        refine ⟨cAt ns q :: L, by rw [List.length_cons, ← hL]; omega, fun p hp => ?_, fun i hi => ?_⟩
        · rcases List.mem_cons.1 hp with rfl | hp
          · exact hok.2
          · exact h1 p hp
        · rw [colS_cons, cAt_gi (by omega)]
          have h3 := h2 i hi
          have h4 := cAt_sub h0 (s := s) (q := q) (by omega) hS (by omega) (by omega) hok.1 (i := i) (by omega)
          have e4 : ((s - q : Nat) : Int) = (s : Int) - q := by omega
          rw [e4] at h3
          omega
theorem pat_less {W : Int} {ws p c : List Int} (h : vPat W ws p = true) (hl : c.length = ws.length) (hc : ∀ i, 0 ≤ gi c i ∧ gi c i ≤ gi p i) : vPat W ws c = true := by
  obtain ⟨a, b, _, d⟩ := vPat_iff.1 h
  refine vPat_mk a hl (fun i _ => (hc i).1) ?_
  have key : ∀ k, k ≤ ws.length → usedL ws c k ≤ usedL ws p k := by
    intro k
    induction k with
    | zero => intro _; exact Int.le_refl _
    | succ k ih =>
      intro hk
      have ih := ih (by omega)
      have := Int.mul_le_mul_of_nonneg_right (hc k).2 (show 0 ≤ gi ws k by have := vWid_w a (i := k) (by omega); omega)
      show usedL ws c k + gi c k * gi ws k ≤ usedL ws p k + gi p k * gi ws k
      omega
  have := key ws.length (Nat.le_refl _)
  rw [hl]
  rw [b] at d
  omega
/-- no fewer sets are enough -/
theorem fw_le {W : Int} {ws ns : List Int} (h : vFew W ws ns = true) : ∀ (L : List (List Int)) (s : Nat), (s : Int) < stN ns ns.length → CovN W ws (dAt ns s) L → fwN W ws ns s ≤ L.length
  | [], s, hS, hc => by
    obtain ⟨hv, hW, h8⟩ := vFew_iff.1 h
    obtain ⟨hd, hl, hr, _⟩ := vWan_iff.1 hv
    have h0 := few_nn h
    have e1 := enc_cAt h0 (show (0 : Int) ≤ (s : Int) by omega) hS
    have e2 : encF ns (dAt ns s) ns.length 0 = encF ns (fun _ => 0) ns.length 0 := encF_congr _ _ fun i _ hi => by
      have h1 := hc.2 i (by omega)
      have h2 := dAt_rng h0 s i
      have h3 : colS [] i = 0 := rfl
      omega
    have e3 : ∀ m k, encF ns (fun _ => 0) m k = 0 := fun m => by
      induction m with
      | zero => intro k; rfl
      | succ m ih => intro k; rw [encF, ih]; simp
    rw [e2, e3] at e1
    obtain rfl : s = 0 := by omega
    rw [fwN_zero]; simp
  | p :: t, s, hS, hc => by
    obtain ⟨hv, hW, h8⟩ := vFew_iff.1 h
    obtain ⟨hd, hl, hr, _⟩ := vWan_iff.1 hv
    have h0 := few_nn h
    have hp := hc.1 p List.mem_cons_self
    have hp2 := vPat_iff.1 hp
    have hp0 : ∀ i, 0 ≤ gi p i := gi_nn fun i hi => (hp2.2.2.1 i hi).1
    obtain ⟨q, hq0, hqs, hqd, hqz⟩ := cAt_mk h0 (s := s) (by omega) hS (c := fun i => min (gi p i) (dAt ns s i)) (fun i => by have := hp0 i; have := dAt_rng h0 s i; show 0 ≤ min _ _; omega) (fun i _ => by show min _ _ ≤ _; omega)
    obtain ⟨q, rfl⟩ := Int.eq_ofNat_of_zero_le hq0
    have hqd2 : ∀ i, i < ns.length → dAt ns q i = min (gi p i) (dAt ns s i) := hqd
    by_cases hz : q = 0
    · have ih := fw_le h t s hS ⟨fun x hx => hc.1 x (List.mem_cons_of_mem _ hx), fun i hi => by
        have h1 := hc.2 i hi
        have h2 : min (gi p i) (dAt ns s i) = 0 := hqz (by omega) i (by omega)
        have h3 := hp0 i
        have h4 := dAt_rng h0 s i
        rw [colS_cons] at h1
        have h5 : 0 ≤ colS t i := (colS_rng fun c hm => by
          have h6 := vPat_iff.1 (hc.1 c (List.mem_cons_of_mem _ hm))
          have h7 := h6.2.2.1
          have h8 : 0 ≤ gi c i := gi_nn (fun i hi => (h7 i hi).1) i
          have h9 := (vWid_iff.1 h6.1).2.1
          refine ⟨h8, ?_⟩
          by_cases hh : i < c.length
          · have := h7 i hh; omega
          · have : gi c i = 0 := by unfold gi; rw [List.getD_eq_getElem?_getD, List.getElem?_eq_none (by omega)]; rfl
            omega).1
        omega⟩
      rw [List.length_cons]; omega
    · have hle : ∀ i, i < ns.length → dAt ns q i ≤ dAt ns s i := fun i hi => by have := hqd2 i hi; omega
      have hok : okN W ws ns (q : Nat) s = true := by
        unfold okN
        rw [Bool.and_eq_true, leN_iff]
        refine ⟨hle, pat_less hp (by rw [cAt_len]; exact hl) fun i => ?_⟩
        refine ⟨(cAt_all h0 q i).1, ?_⟩
        by_cases hi : i < ns.length
        · rw [cAt_gi hi, hqd2 i hi]; omega
        · have : gi (cAt ns q) i = 0 := by unfold gi; rw [List.getD_eq_getElem?_getD, List.getElem?_eq_none (by rw [cAt_len]; omega)]; rfl
          rw [this]; exact hp0 i
      have hs0 : 0 < s := by omega
      have h1 := inG_le (f := fwN W ws ns) (m := s) (show 1 ≤ q by omega) (by omega) hok
      have ih := fw_le h t (s - q) (by omega) ⟨fun x hx => hc.1 x (List.mem_cons_of_mem _ hx), fun i hi => by
        have h2 := hc.2 i hi
        have h4 := cAt_sub h0 (s := s) (q := q) (by omega) hS (by omega) (by omega) hle (i := i) (by omega)
        have e4 : ((s - q : Nat) : Int) = (s : Int) - q := by omega
        rw [e4, h4, hqd2 i (by omega)]
        rw [colS_cons] at h2
        have h5 := dAt_rng h0 s i
        have h6 : 0 ≤ colS t i := (colS_rng fun c hm => by
          have h6 := vPat_iff.1 (hc.1 c (List.mem_cons_of_mem _ hm))
          have h7 := h6.2.2.1
          have h8 : 0 ≤ gi c i := gi_nn (fun i hi => (h7 i hi).1) i
          have h9 := (vWid_iff.1 h6.1).2.1
          refine ⟨h8, ?_⟩
          by_cases hh : i < c.length
          · have := h7 i hh; omega
          · have : gi c i = 0 := by unfold gi; rw [List.getD_eq_getElem?_getD, List.getElem?_eq_none (by omega)]; rfl
            omega).1
        omega⟩
      rw [fwN_eq hs0, List.length_cons]; omega
theorem fw_top {W : Int} {ws ns : List Int} (h : vFew W ws ns = true) : ((stN ns ns.length - 1).toNat : Int) < stN ns ns.length ∧ ∀ i, i < ns.length → dAt ns ((stN ns ns.length - 1).toNat : Int) i = gi ns i := by
  have h0 := few_nn h
  have h1 := stN_pos h0 ns.length
  have e : ((stN ns ns.length - 1).toNat : Int) = stN ns ns.length - 1 := by omega
  refine ⟨by omega, fun i hi => ?_⟩
  rw [e, ← cAt_gi hi, cAt_top h0]
/-- prices are a bound -/
theorem pb_few {W : Int} {ws ns vs : List Int} : fwL W ws ns < 0 ∨ pbL W ws ns vs ≤ fwL W ws ns := by
  unfold fwL
  by_cases h : vFew W ws ns = true
  rotate_left
  · rw [if_neg h]; exact .inl (by omega)
  rw [if_pos h]
  right
  have h9 := fwN_rng W ws ns (stN ns ns.length - 1).toNat
  unfold pbL
  by_cases hv : vWan W ws ns = true ∧ vVal W ws vs = true
  rotate_left
  · rw [if_neg hv]; omega
  rw [if_pos hv]
  split
  · omega
  rename_i hs
  obtain ⟨ht, hd⟩ := fw_top h
  obtain ⟨L, hL, h1, h2⟩ := fw_cov h _ ht
  rw [← hL]
  refine ceil_le (best_pos hv.1 hv.2 hs) ?_
  obtain ⟨_, b, c, d⟩ := vWan_iff.1 hv.1
  have hvv := vVal_iff.1 hv.2
  have h3 := used_col (vs := vs) L ws.length
  have h4 := sum_leP (b := bestL W ws vs) (L := L.map fun c => usedL vs c ws.length) fun x hx => by
    obtain ⟨c, hc, rfl⟩ := List.mem_map.1 hx
    exact vPat_value (h1 c hc)
  rw [List.length_map, ← h3] at h4
  have key : ∀ k, k ≤ ws.length → usedL vs ns k ≤ usedL vs ((List.range ws.length).map (colS L)) k := by
    intro k
    induction k with
    | zero => intro _; exact Int.le_refl _
    | succ k ih =>
      intro hk
      have ih := ih (by omega)
      have h5 := h2 k (by omega)
      rw [hd k (by omega)] at h5
      have := Int.mul_le_mul_of_nonneg_right h5 (show 0 ≤ gi vs k by have := hvv.2.2 k (by omega); omega)
      show usedL vs ns k + gi ns k * gi vs k ≤ usedL vs _ k + gi ((List.range ws.length).map (colS L)) k * gi vs k
      rw [gi_map_range (show k < ws.length by omega)]
      omega
  have := key ws.length (Nat.le_refl _)
  rw [b]
  omega
end Go.Proofs.Yteckjiaaikdghaa
