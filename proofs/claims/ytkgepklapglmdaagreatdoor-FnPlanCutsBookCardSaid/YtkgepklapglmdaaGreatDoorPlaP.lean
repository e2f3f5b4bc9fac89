/-
  Lemmas and contracts of single functions of this program, used by the proofs of its laws: what each call returns and what becomes of memory. Conditions: the hypotheses of each theorem.
-/
import Derived.Test.YtkgepklapglmdaaGreatDoorGPQ
import Derived.Test.YtkgepklapglmdaaGreatDoorSlX
import Derived.Test.YtkgepklapglmdaaGreatDoorMillS
namespace Go.Proofs.YtkgepklapglmdaaGreatDoor
open Go.RowKit

/-! from wants to cuts: plain -/
theorem snd_patP {W : Int} {ws l : List Int} {K' : List Nat} {s : Gs} (hv : vWid W ws = true) (h : SndG W ws l K' s) : vPat W ws s.c = true := by
  have hw := fun i (hi : i < ws.length) => vWid_w hv hi
  have hnn : ∀ i, i < ws.length → 0 ≤ gi s.c i ∧ 0 ≤ gi ws i := fun i hi => ⟨h.c0 i, by have := hw i hi; omega⟩
  have hr := h.rW
  have h0 := h.r0
  refine vPat_iff.2 ⟨hv, h.cl, fun i hi => ⟨h.c0 i, ?_⟩, by rw [h.cl]; omega⟩
  have hi' : i < ws.length := by rw [← h.cl]; exact hi
  have h1 := used_step hnn (k := i + 1) hi' (m := ws.length) hi' (Nat.le_refl _)
  have h2 : usedL ws s.c (i + 1) = usedL ws s.c i + gi s.c i * gi ws i := rfl
  have h3 := used_nonneg (ws := ws) (cs := s.c) (n := ws.length) hnn (m := i) (Nat.le_of_lt hi')
  have h4 : gi s.c i * 1 ≤ gi s.c i * gi ws i := Int.mul_le_mul_of_nonneg_left (hw i hi').1 (h.c0 i)
  omega
theorem grd_patP {W : Int} {ws : List Int} {K : List Nat} (hv : vWid W ws = true) (hW : 0 ≤ W) (hK : OrdG ws.length K) : ∀ (k : Nat) (l : List Int), l.length = ws.length → (∀ i, 0 ≤ gi l i) → ∀ c ∈ grdN W ws K k l, vPat W ws c = true
  | 0, _, _, _, c, hc => by cases hc
  | k + 1, l, hl, h0, c, hc => by
    have hS := pat_snd (W := W) (fun i hi => (vWid_w hv hi).1) hW hK hl h0
    rw [grdN] at hc
    by_cases hs : 0 < l.sum
    · rw [if_pos hs] at hc
      rcases List.mem_cons.1 hc with rfl | hc
      · exact snd_patP hv hS
      · exact grd_patP hv hW hK k _ hS.ll hS.l0' c hc
    · rw [if_neg hs] at hc; cases hc
theorem gs_patP {W : Int} {ws xs : List Int} : ∀ c ∈ gsL W ws xs, vPat W ws c = true := fun c hc => by
  unfold gsL at hc
  split at hc
  · rename_i h
    have hv := vWan_iff.1 h
    have hW := (vWid_iff.1 hv.1).1
    exact grd_patP hv.1 (by omega) (kOrd_desc hv.1).1 _ _ hv.2.1 (gi_nn fun i hi => (hv.2.2.1 i hi).1) c hc
  · cases hc
theorem gs_none {W : Int} {ws xs : List Int} (h : ¬ (vWan W ws xs = true ∧ 0 < xs.sum)) : gsL W ws xs = [] := by
  unfold gsL grdL
  split
  · rename_i hv
    rw [show xs.sum.toNat = 0 by have : ¬ 0 < xs.sum := fun h9 => h ⟨hv, h9⟩; omega]; rfl
  · rfl
theorem gs_some {W : Int} {ws xs : List Int} (h : vWan W ws xs = true) (hs : 0 < xs.sum) : 0 < (gsL W ws xs).length := by
  unfold gsL grdL
  rw [if_pos h]
  obtain ⟨q, hq⟩ : ∃ q, xs.sum.toNat = q + 1 := ⟨xs.sum.toNat - 1, by omega⟩
  rw [hq, grdN, if_pos hs]
  simp
/-- the cuts of a plan as events -/
def plE (lb : Int) (ps : List (List Int)) : List Evt := ps.map fun p => ⟨2, lb, gi p 0, gi p 1, gi p 2, gi p 3, 0⟩
/-- what is to be done -/
def plB (m : Mil) (lb : Int) (ws xs : List Int) : Bool := m.ok && decide (0 ≤ entI m.es lb) && decide ((ge m.es (entI m.es lb).toNat).ps.length = 0) && vWan (ge m.es (entI m.es lb).toNat).W ws xs && decide (0 < xs.sum)
def plL (m : Mil) (lb : Int) (ws xs : List Int) : List Evt :=
  if plB m lb ws xs = true then plE lb (slL (ge m.es (entI m.es lb).toNat).W (ge m.es (entI m.es lb).toNat).L (ge m.es (entI m.es lb).toNat).ds ws (gr (gsL (ge m.es (entI m.es lb).toNat).W ws xs) 0) 0 (ge m.es (entI m.es lb).toNat).L) else []
theorem plB_iff {m : Mil} {lb : Int} {ws xs : List Int} : plB m lb ws xs = true ↔ m.ok = true ∧ 0 ≤ entI m.es lb ∧ (ge m.es (entI m.es lb).toNat).ps.length = 0 ∧ vWan (ge m.es (entI m.es lb).toNat).W ws xs = true ∧ 0 < xs.sum := by
  unfold plB
  simp only [Bool.and_eq_true, decide_eq_true_eq, and_assoc]
theorem plE_len (lb : Int) (ps : List (List Int)) : (plE lb ps).length = ps.length := by unfold plE; rw [List.length_map]
theorem plL_len (m : Mil) (lb : Int) (ws xs : List Int) : (plL m lb ws xs).length ≤ 60 := by
  unfold plL
  split
  · rw [plE_len]; exact slL_len _ _ _ _ _ _ _
  · simp
theorem grP_take {xs : List (List Int)} {k i : Nat} (h : i < k) : gr (xs.take k) i = gr xs i := by
  unfold gr; rw [List.getD_eq_getElem?_getD, List.getD_eq_getElem?_getD, List.getElem?_take, if_pos h]
theorem vCuts_take {W L : Int} {ds ps : List (List Int)} (h : vCuts W L ds ps = true) (k : Nat) : vCuts W L ds (ps.take k) = true := by
  obtain ⟨h1, h2, h3⟩ := vCuts_iff.1 h
  refine vCuts_iff.2 ⟨h1, by rw [List.length_take]; omega, fun j hj => ?_⟩
  rw [List.length_take] at hj
  have h4 := h3 j (by omega)
  unfold cutOk at h4 ⊢
  rw [Bool.and_eq_true] at h4 ⊢
  rw [grP_take (show j < k by omega)]
  refine ⟨h4.1, (noMeet_iff (by rw [List.length_take]; omega)).2 fun i hi => ?_⟩
  rw [grP_take (show i < k by omega)]
  exact (noMeet_iff (by omega)).1 h4.2 i hi
theorem lbs_setP {es : List Ent} {i : Nat} {f : Ent} (hi : i < es.length) (hl : f.lb = (ge es i).lb) : lbs (es.set i f) = lbs es := by
  unfold lbs
  apply List.ext_getElem
  · simp
  · intro j h1 h2
    rw [List.getElem_map, List.getElem_map, List.getElem_set]
    split
    · rename_i e; subst e; rw [hl, ge_eq hi]
    · rfl
theorem held_setP {es : List Ent} {i : Nat} {f : Ent} (hi : i < es.length) (hW : f.W = (ge es i).W) (hL : f.L = (ge es i).L) : heldL (es.set i f) = heldL es := by
  have key : ∀ es : List Ent, heldL es = (es.map fun e => e.W * e.L).foldl (fun n x => n + x) 0 := fun es => by unfold heldL; rw [List.foldl_map]
  rw [key, key]
  congr 1
  apply List.ext_getElem
  · simp
  · intro j h1 h2
    rw [List.getElem_map, List.getElem_map, List.getElem_set]
    split
    · rename_i e; subst e; rw [hW, hL, ge_eq hi]
    · rfl
theorem mill_setP {es : List Ent} {i : Nat} {f : Ent} {a b z : Int} (h : vMill es a b z = true) (hi : i < es.length) (hl : f.lb = (ge es i).lb) (hW : f.W = (ge es i).W) (hL : f.L = (ge es i).L) (hv : vEnt f = true) : vMill (es.set i f) a b z = true := by
  obtain ⟨h1, h2, h3, h4, h5, h6⟩ := vMill_iff.1 h
  refine vMill_iff.2 ⟨fun k hk => ?_, by rw [List.length_set]; exact h2, h3, h4, h5, by rw [held_setP hi hW hL]; exact h6⟩
  rw [List.length_set] at hk
  have e : ascE (es.set i f) k = ascE es k := by unfold ascE; rw [← lbs_gi (es.set i f), ← lbs_gi (es.set i f), lbs_setP hi hl, lbs_gi, lbs_gi]
  refine ⟨?_, by rw [e]; exact (h1 k hk).2⟩
  rw [ge_set hi]
  split
  · exact hv
  · exact (h1 k hk).1
theorem list4P {E : List Int} (h : E.length = 4) : [gi E 0, gi E 1, gi E 2, gi E 3] = E := by
  obtain ⟨a, b, c, d, rfl⟩ : ∃ a b c d, E = [a, b, c, d] := by
    match E, h with
    | [a, b, c, d], _ => exact ⟨a, b, c, d, rfl⟩
  rfl
theorem rows_len4 (w a fr til : Int) : ∀ m, ∀ y ∈ rowsOf w a fr til m, y.length = 4
  | 0, y, h => by simp [rowsOf] at h
  | m + 1, y, h => by
    rw [rowsOf, List.mem_append, List.mem_singleton] at h
    rcases h with h | rfl
    · exact rows_len4 w a fr til m y h
    · rfl
theorem slit_len4 (ws cs : List Int) (fr til : Int) : ∀ k, ∀ y ∈ slitT ws cs fr til k, y.length = 4
  | 0, y, h => by simp [slitT] at h
  | k + 1, y, h => by
    rw [slitT, List.mem_append] at h
    rcases h with h | h
    · exact slit_len4 ws cs fr til k y h
    · exact rows_len4 _ _ _ _ _ y h
theorem plE_take (lb : Int) {P : List (List Int)} {k : Nat} (h : k < P.length) : (plE lb P).take (k + 1) = (plE lb P).take k ++ [⟨2, lb, gi (gr P k) 0, gi (gr P k) 1, gi (gr P k) 2, gi (gr P k) 3, 0⟩] := by
  unfold plE
  rw [← List.map_take, take_gr h, List.map_append, List.map_take]
  rfl
def setPs (e : Ent) (ps : List (List Int)) : Ent := ⟨e.lb, e.W, e.L, e.ds, ps⟩
/-- what a plan is -/
structure PlD (m : Mil) (lb : Int) (ws xs : List Int) (i : Nat) (C : List Int) (P : List (List Int)) : Prop where
  ok : m.ok = true
  ei : entI m.es lb = (i : Int)
  il : i < m.es.length
  el : (ge m.es i).lb = lb
  first : ∀ j, j < i → (ge m.es j).lb ≠ lb
  ps : (ge m.es i).ps = []
  glen : 0 < (gsL (ge m.es i).W ws xs).length
  hC : C = gr (gsL (ge m.es i).W ws xs) 0
  pat : vPat (ge m.es i).W ws C = true
  cuts : vCuts (ge m.es i).W (ge m.es i).L (ge m.es i).ds P = true
  len4 : ∀ x ∈ P, x.length = 4
  num : (P.length : Int) = sumI C C.length
  area : areaL P P.length = usedL ws C C.length * (ge m.es i).L
  ev : plL m lb ws xs = plE lb P
theorem plan_data {m : Mil} {lb : Int} {ws xs : List Int} (h : plB m lb ws xs = true) : ∃ i C P, PlD m lb ws xs i C P := by
  obtain ⟨h1, h2, h3, h4, h5⟩ := plB_iff.1 h
  rcases entI_first m.es lb with ⟨h6, _⟩ | ⟨i, hi, hil, hlb, hf⟩
  · omega
  have hev : plL m lb ws xs = plE lb (slL (ge m.es i).W (ge m.es i).L (ge m.es i).ds ws (gr (gsL (ge m.es i).W ws xs) 0) 0 (ge m.es i).L) := by
    unfold plL; rw [if_pos h, hi, Int.toNat_natCast]
  rw [hi, Int.toNat_natCast] at h3 h4
  have hg := gs_some h4 h5
  have hv := vCuts_iff.1 (vEnt_iff.1 (Mil.ents h1 i hil)).2.2
  have hr := vReel_rng hv.1
  have hpat : vPat (ge m.es i).W ws (gr (gsL (ge m.es i).W ws xs) 0) = true := gs_patP _ (gr_mem hg)
  have hy : vReel (ge m.es i).W (ge m.es i).L (ge m.es i).ds = true ∧ vPat (ge m.es i).W ws (gr (gsL (ge m.es i).W ws xs) 0) = true ∧ 0 ≤ (0 : Int) ∧ 0 < (ge m.es i).L ∧ (ge m.es i).L ≤ (ge m.es i).L := ⟨hv.1, hpat, by omega, by omega, by omega⟩
  refine ⟨i, _, _, h1, hi, hil, hlb, hf, List.eq_nil_of_length_eq_zero h3, hg, rfl, hpat, ?_, ?_, ?_, ?_, hev⟩
  · rw [slL_yes hy]; exact slit_cuts hy
  · rw [slL_yes hy]; exact slit_len4 _ _ _ _ _
  · rw [slL_yes hy]; exact slitT_sum 0 _ hpat (Nat.le_refl _)
  · rw [slL_yes hy, slit_area 0 _ hpat, Int.sub_zero]
/-- the mill when k cuts have been made -/
def mlK (m : Mil) (i : Nat) (P : List (List Int)) (k : Nat) : Mil := ⟨m.es.set i (setPs (ge m.es i) (P.take k)), m.a, m.b, m.z⟩
theorem mlK_zero {m : Mil} {lb : Int} {ws xs : List Int} {i : Nat} {C : List Int} {P : List (List Int)} (D : PlD m lb ws xs i C P) : mlK m i P 0 = m := by
  have e : setPs (ge m.es i) [] = ge m.es i := by unfold setPs; rw [← D.ps]
  unfold mlK
  rw [List.take_zero, e, ge_eq D.il, List.set_getElem_self]
theorem mlK_ok {m : Mil} {lb : Int} {ws xs : List Int} {i : Nat} {C : List Int} {P : List (List Int)} (D : PlD m lb ws xs i C P) (k : Nat) : (mlK m i P k).ok = true := by
  have hv : vEnt (ge m.es i) = true := Mil.ents D.ok i D.il
  refine mill_setP D.ok D.il rfl rfl rfl ?_
  unfold vEnt at hv ⊢
  rw [Bool.and_eq_true] at hv ⊢
  exact ⟨hv.1, vCuts_take D.cuts _⟩
theorem mlK_step {m : Mil} {lb : Int} {ws xs : List Int} {i : Nat} {C : List Int} {P : List (List Int)} (D : PlD m lb ws xs i C P) {k : Nat} (hkl : k < P.length) :
    apE (mlK m i P k) ⟨2, lb, gi (gr P k) 0, gi (gr P k) 1, gi (gr P k) 2, gi (gr P k) 3, 0⟩ = some (mlK m i P (k + 1)) := by
  have e1 : entI (m.es.set i (setPs (ge m.es i) (P.take k))) lb = (i : Int) := by
    unfold entI; rw [lbs_setP (f := setPs (ge m.es i) (P.take k)) D.il rfl]; exact D.ei
  have e2 : ge (m.es.set i (setPs (ge m.es i) (P.take k))) i = setPs (ge m.es i) (P.take k) := by rw [ge_set D.il, if_pos rfl]
  have e3 : P.take k ++ [[gi (gr P k) 0, gi (gr P k) 1, gi (gr P k) 2, gi (gr P k) 3]] = P.take (k + 1) := by rw [list4P (D.len4 _ (gr_mem hkl)), take_gr hkl]
  have hok := mlK_ok D (k + 1)
  unfold mlK at hok ⊢
  unfold apE
  dsimp only
  rw [if_neg (by decide), e1, if_neg (by omega), if_neg (by decide), if_pos rfl, Int.toNat_natCast, e2]
  show chk ⟨(m.es.set i (setPs (ge m.es i) (P.take k))).set i (setPs (ge m.es i) (P.take k ++ [[gi (gr P k) 0, gi (gr P k) 1, gi (gr P k) 2, gi (gr P k) 3]])), m.a, m.b, m.z⟩ = _
  rw [List.set_set, e3]
  unfold chk
  rw [if_pos hok]
theorem mlK_len (m : Mil) (i : Nat) (P : List (List Int)) (k : Nat) : (mlK m i P k).es.length = m.es.length := by unfold mlK; rw [List.length_set]
theorem mlK_at {m : Mil} {lb : Int} {ws xs : List Int} {i : Nat} {C : List Int} {P : List (List Int)} (D : PlD m lb ws xs i C P) (k : Nat) : ge (mlK m i P k).es i = setPs (ge m.es i) (P.take k) := by
  unfold mlK; rw [ge_set D.il, if_pos rfl]
theorem mlK_ei {m : Mil} {lb : Int} {ws xs : List Int} {i : Nat} {C : List Int} {P : List (List Int)} (D : PlD m lb ws xs i C P) (k : Nat) : entI (mlK m i P k).es lb = (i : Int) := by
  unfold mlK entI
  rw [lbs_setP (f := setPs (ge m.es i) (P.take k)) D.il rfl]; exact D.ei
theorem evT_at (lb : Int) {P : List (List Int)} {k : Nat} (h : k < P.length) : gr (evT (plE lb P)) k = [2, lb, gi (gr P k) 0, gi (gr P k) 1, gi (gr P k) 2, gi (gr P k) 3, 0] := by
  have e : evT (plE lb P) = P.map fun p => [2, lb, gi p 0, gi p 1, gi p 2, gi p 3, 0] := by unfold evT plE; rw [List.map_map]; rfl
  rw [e, gr_eq (by rw [List.length_map]; exact h), List.getElem_map, gr_eq h]
theorem held_erase : ∀ {es : List Ent} {i : Nat}, i < es.length → heldL (es.eraseIdx i) + (ge es i).W * (ge es i).L = heldL es := by
  have key : ∀ (es : List Ent) (n : Int), es.foldl (fun n e => n + e.W * e.L) n = n + heldL es := by
    intro es
    induction es with
    | nil => intro n; show n = n + 0; omega
    | cons x t ih =>
      intro n
      have h0 : heldL (x :: t) = t.foldl (fun n e => n + e.W * e.L) (0 + x.W * x.L) := rfl
      rw [h0, List.foldl_cons, ih, ih]
      omega
  have hc : ∀ (x : Ent) (t : List Ent), heldL (x :: t) = x.W * x.L + heldL t := fun x t => by
    have h0 : heldL (x :: t) = t.foldl (fun n e => n + e.W * e.L) (0 + x.W * x.L) := rfl
    rw [h0, key]; omega
  intro es
  induction es with
  | nil => intro i h; exact absurd h (by simp)
  | cons x t ih =>
    intro i h
    cases i with
    | zero =>
      rw [List.eraseIdx_cons_zero, hc]
      have : ge (x :: t) 0 = x := rfl
      rw [this]; omega
    | succ i =>
      rw [List.eraseIdx_cons_succ, hc, hc]
      have : ge (x :: t) (i + 1) = ge t i := rfl
      rw [this]
      have := ih (i := i) (by simpa using h)
      omega
theorem pair_asc {es : List Ent} (h : es.Pairwise fun a b => a.lb < b.lb) {k : Nat} (hk : k < es.length) : ascE es k = true := by
  unfold ascE
  rw [Bool.or_eq_true, decide_eq_true_eq, decide_eq_true_eq]
  rcases Nat.eq_zero_or_pos k with h0 | h0
  · exact .inl h0
  · right
    rw [ge_eq (show k - 1 < es.length by omega), ge_eq hk]
    exact List.pairwise_iff_getElem.1 h (k - 1) k (by omega) hk (by omega)
/-- a reel may always be shipped -/
theorem ship_ok {m : Mil} {lb g : Int} {i : Nat} (hm : m.ok = true) (hi : entI m.es lb = (i : Int)) (hil : i < m.es.length) :
    apE m ⟨3, lb, 0, 0, 0, 0, g⟩ = some ⟨m.es.eraseIdx i, m.a, m.b + goodA (ge m.es i) g, m.z + ((ge m.es i).W * (ge m.es i).L - goodA (ge m.es i) g)⟩ := by
  unfold apE
  dsimp only
  rw [if_neg (by decide), hi, if_neg (by omega), if_neg (by decide), if_neg (by decide), if_pos rfl, Int.toNat_natCast]
  unfold chk
  rw [if_pos]
  obtain ⟨h1, h2, h3, h4, h5, h6⟩ := vMill_iff.1 hm
  have hg := good_le (Mil.ents hm i hil) g
  have he := held_erase hil
  have hp := (asc_pair fun k hk => (h1 k hk).2).sublist (List.eraseIdx_sublist m.es i)
  have hents : ∀ k, k < (m.es.eraseIdx i).length → vEnt (ge (m.es.eraseIdx i) k) = true := fun k hk => by
    have hx := List.mem_of_mem_eraseIdx (ge_mem hk)
    obtain ⟨j, hj, e⟩ := List.mem_iff_getElem.1 hx
    rw [← e, ← ge_eq hj]
    exact (h1 j hj).1
  have hh := (held_rng hents _ (Nat.le_refl _)).1
  rw [List.take_length] at hh
  unfold Mil.ok
  dsimp only
  refine vMill_iff.2 ⟨fun k hk => ⟨hents k hk, pair_asc hp hk⟩, ?_, h3, ⟨by omega, by omega⟩, ⟨by omega, by omega⟩, by omega⟩
  have := List.length_eraseIdx_of_lt hil
  omega
theorem worst_le9P {W L : Int} {ds : List (List Int)} (hd : ∀ d ∈ ds, dOk W L d = true) (p : List Int) : worstL ds p ≤ 9 := by
  unfold worstL
  have key : ∀ (l : List (List Int)) (n : Int), (∀ d ∈ l, dOk W L d = true) → n ≤ 9 → l.foldl (fun m d => if mT d p = true then max m (gi d 4) else m) n ≤ 9 := by
    intro l
    induction l with
    | nil => intro n _ h; exact h
    | cons x t ih =>
      intro n h hn
      rw [List.foldl_cons]
      refine ih _ (fun d hd => h d (List.mem_cons_of_mem _ hd)) ?_
      have hx := h x List.mem_cons_self
      unfold dOk at hx
      rw [Bool.and_eq_true, Bool.and_eq_true, decide_eq_true_eq, decide_eq_true_eq] at hx
      split
      · omega
      · exact hn
  exact key ds 0 hd (by omega)
/-- with the last grade all cuts are good -/
theorem good_all {e : Ent} (h : vReel e.W e.L e.ds = true) : goodA e 9 = areaL e.ps e.ps.length := by
  have hb : badK e 9 e.ps.length = 0 := by
    have key : ∀ k, k ≤ e.ps.length → badK e 9 k = 0 := by
      intro k
      induction k with
      | zero => intro _; rfl
      | succ k ih =>
        intro hk
        rw [badK_succ (by omega), ih (by omega), if_neg]
        · rfl
        · have := worst_le9P (vReel_iff.1 h).2.2.2.2.2 (gr e.ps k); omega
    exact key _ (Nat.le_refl _)
  have := good_bad e 9 e.ps.length (Nat.le_refl _)
  rw [goodK_all, hb] at this
  omega
end Go.Proofs.YtkgepklapglmdaaGreatDoor
