/-
  Texts merged into one: what each function does, and plain lemmas. No condition.
-/
import Derived.Test.YtkgepklapglmdaaGreatDoorSAB
namespace Go.Proofs.YtkgepklapglmdaaGreatDoor
open Go.RowKit

/-! sets with the widest rolls first -/
/-- the counts so far, what is left of the wants, the room -/
structure Gs where
  c : List Int
  l : List Int
  r : Int
def stepG (ws : List Int) (s : Gs) (i : Nat) : Gs :=
  ⟨s.c.set i (min (gi s.l i) (s.r / gi ws i)), s.l.set i (gi s.l i - min (gi s.l i) (s.r / gi ws i)), s.r - min (gi s.l i) (s.r / gi ws i) * gi ws i⟩
def patG (W : Int) (ws : List Int) (K : List Nat) (l : List Int) : Gs := K.foldl (stepG ws) ⟨List.replicate ws.length 0, l, W⟩
theorem gi_rep (n i : Nat) : gi (List.replicate n 0) i = 0 := by
  unfold gi; rw [List.getD_eq_getElem?_getD, List.getElem?_replicate]; split <;> rfl
theorem giG_eq {ys : List Int} {r : Nat} (h : r < ys.length) (y : Int) : gi (ys.set r y) r = y := by simp [gi, h]
theorem giG_ne {ys : List Int} {r i : Nat} (h : r ≠ i) (y : Int) : gi (ys.set r y) i = gi ys i := by simp [gi, List.getD, List.getElem?_set_ne h]
theorem sumG_set : ∀ {ys : List Int} {r : Nat}, r < ys.length → ∀ y, (ys.set r y).sum = ys.sum - gi ys r + y
  | [], _, h, _ => absurd h (by simp)
  | x :: t, 0, _, y => by simp only [List.set_cons_zero, List.sum_cons]; have : gi (x :: t) 0 = x := rfl; omega
  | x :: t, r + 1, h, y => by
    have ih := sumG_set (ys := t) (r := r) (by simpa using h) y
    have e : gi (x :: t) (r + 1) = gi t r := by simp [gi]
    simp only [List.set_cons_succ, List.sum_cons]; omega
theorem sumG_pos : ∀ {ys : List Int}, (∀ i, i < ys.length → 0 ≤ gi ys i) → 0 ≤ ys.sum ∧ ∀ i, i < ys.length → gi ys i ≤ ys.sum
  | [], _ => ⟨Int.le_refl _, fun i hi => absurd hi (by simp)⟩
  | x :: t, h => by
    obtain ⟨h1, h2⟩ := sumG_pos (ys := t) fun i hi => h (i + 1) (by simpa using hi)
    have h0 : 0 ≤ x := h 0 (by simp)
    rw [List.sum_cons]
    refine ⟨by omega, fun i hi => ?_⟩
    cases i with
    | zero => show x ≤ _; omega
    | succ i =>
      have := h2 i (by simpa using hi)
      have e : gi (x :: t) (i + 1) = gi t i := by simp [gi]
      omega
theorem sumG_zero : ∀ {ys : List Int}, (∀ i, i < ys.length → 0 ≤ gi ys i) → ys.sum ≤ 0 → ∀ i, gi ys i = 0
  | [], _, _, i => by simp [gi]
  | x :: t, h, hs, i => by
    have h1 := sumG_pos (ys := t) fun i hi => h (i + 1) (by simpa using hi)
    have h0 : 0 ≤ x := h 0 (by simp)
    rw [List.sum_cons] at hs
    cases i with
    | zero => show x = 0; omega
    | succ i =>
      have e : gi (x :: t) (i + 1) = gi t i := by simp [gi]
      rw [e]
      exact sumG_zero (fun i hi => h (i + 1) (by simpa using hi)) (by omega) i
/-- how much of the width the counts take -/
theorem used_set {ws cs : List Int} {r : Nat} {y : Int} (hr : r < cs.length) : ∀ k, usedL ws (cs.set r y) k = if r < k then usedL ws cs k - gi cs r * gi ws r + y * gi ws r else usedL ws cs k
  | 0 => by rw [if_neg (Nat.not_lt_zero r)]; rfl
  | k + 1 => by
    have ih := used_set (ws := ws) (y := y) hr k
    have e1 : usedL ws (cs.set r y) (k + 1) = usedL ws (cs.set r y) k + gi (cs.set r y) k * gi ws k := rfl
    have e2 : usedL ws cs (k + 1) = usedL ws cs k + gi cs k * gi ws k := rfl
    rw [e1, e2, ih]
    by_cases h1 : r = k
    · subst h1
      rw [if_neg (Nat.lt_irrefl r), if_pos (Nat.lt_succ_self r), giG_eq hr]
      omega
    · rw [giG_ne h1]
      by_cases h2 : r < k
      · rw [if_pos h2, if_pos (by omega)]; omega
      · rw [if_neg h2, if_neg (by omega)]
/-- sound: K' is what has been done -/
structure SndG (W : Int) (ws l0 : List Int) (K' : List Nat) (s : Gs) : Prop where
  cl : s.c.length = ws.length
  ll : s.l.length = ws.length
  c0 : ∀ i, 0 ≤ gi s.c i
  l0' : ∀ i, 0 ≤ gi s.l i
  sum : ∀ i, gi s.c i + gi s.l i = gi l0 i
  tot : s.l.sum = l0.sum - s.c.sum
  new : ∀ i, i ∉ K' → gi s.c i = 0
  r0 : 0 ≤ s.r
  rW : s.r = W - usedL ws s.c ws.length
  /-- whatever is still wanted did not fit any more -/
  fit : ∀ i, i ∈ K' → 0 < gi s.l i → s.r < gi ws i
theorem used_zero {ws cs : List Int} (h : ∀ i, gi cs i = 0) : ∀ k, usedL ws cs k = 0
  | 0 => rfl
  | k + 1 => by show usedL ws cs k + gi cs k * gi ws k = 0; rw [used_zero h k, h k]; simp
theorem SndG.start {W : Int} {ws l0 : List Int} (hW : 0 ≤ W) (hl : l0.length = ws.length) (h0 : ∀ i, 0 ≤ gi l0 i) : SndG W ws l0 [] ⟨List.replicate ws.length 0, l0, W⟩ := by
  have hz : (List.replicate ws.length (0 : Int)).sum = 0 := by
    generalize ws.length = n
    induction n with
    | zero => rfl
    | succ n ih => rw [List.replicate_succ, List.sum_cons, ih]; rfl
  refine ⟨by simp, hl, fun i => by rw [gi_rep]; omega, h0, fun i => by rw [gi_rep]; show 0 + gi l0 i = gi l0 i; omega, by show l0.sum = _; rw [hz]; omega, fun i _ => gi_rep _ i, hW, ?_, fun i hi => absurd hi (by simp)⟩
  show W = _
  rw [used_zero (fun i => gi_rep _ i)]; omega
theorem SndG.next {W : Int} {ws l0 : List Int} {K' : List Nat} {s : Gs} {i : Nat} (h : SndG W ws l0 K' s) (hi : i < ws.length) (hn : i ∉ K') (hw : 1 ≤ gi ws i) : SndG W ws l0 (K' ++ [i]) (stepG ws s i) := by
  obtain ⟨a1, a2, a3, a4, a5, a6, a7, a8, a9, a10⟩ := h
  obtain ⟨q, hq⟩ : ∃ q, q = s.r / gi ws i := ⟨_, rfl⟩
  have hq0 : 0 ≤ q := by rw [hq]; exact Int.ediv_nonneg a8 (by omega)
  have hqm : q * gi ws i ≤ s.r := by rw [hq]; exact Int.ediv_mul_le _ (by omega)
  have hqr : s.r < (q + 1) * gi ws i := by rw [hq]; exact Int.lt_ediv_add_one_mul_self _ (by omega)
  obtain ⟨n, hn9⟩ : ∃ n, n = min (gi s.l i) q := ⟨_, rfl⟩
  have hl := a4 i
  have hn0 : 0 ≤ n ∧ n ≤ gi s.l i ∧ n ≤ q := by omega
  have hcz := a7 i hn
  have hnm : n * gi ws i ≤ q * gi ws i := Int.mul_le_mul_of_nonneg_right hn0.2.2 (by omega)
  have hnn : 0 ≤ n * gi ws i := Int.mul_nonneg hn0.1 (by omega)
  have e1 : (stepG ws s i).c = s.c.set i n := by rw [hn9, hq]; rfl
  have e2 : (stepG ws s i).l = s.l.set i (gi s.l i - n) := by rw [hn9, hq]; rfl
  have e3 : (stepG ws s i).r = s.r - n * gi ws i := by rw [hn9, hq]; rfl
  refine ⟨by rw [e1, List.length_set]; exact a1, by rw [e2, List.length_set]; exact a2, fun j => ?_, fun j => ?_, fun j => ?_, ?_, fun j hj => ?_, by rw [e3]; omega, ?_, fun j hj hp => ?_⟩
  · rw [e1]
    by_cases h : i = j
    · subst h; rw [giG_eq (by omega)]; omega
    · rw [giG_ne h]; exact a3 j
  · rw [e2]
    by_cases h : i = j
    · subst h; rw [giG_eq (by omega)]; omega
    · rw [giG_ne h]; exact a4 j
  · rw [e1, e2]
    by_cases h : i = j
    · subst h; rw [giG_eq (by omega), giG_eq (by omega)]; have := a5 i; omega
    · rw [giG_ne h, giG_ne h]; exact a5 j
  · rw [e1, e2, sumG_set (by omega), sumG_set (by omega)]; omega
  · rw [e1]
    have hj1 : i ≠ j := fun e => hj (by rw [e]; simp)
    rw [giG_ne hj1]
    exact a7 j fun h => hj (List.mem_append.2 (.inl h))
  · rw [e1, e3, used_set (by omega), if_pos hi, hcz]
    omega
  · rw [e3]
    rw [e2] at hp
    by_cases h : i = j
    · subst h
      rw [giG_eq (by omega)] at hp
      have hnq : n = q := by omega
      rw [hnq]
      have : (q + 1) * gi ws i = q * gi ws i + gi ws i := by rw [Int.add_mul, Int.one_mul]
      omega
    · rw [giG_ne h] at hp
      rcases List.mem_append.1 hj with hj | hj
      · have := a10 j hj hp; omega
      · exact absurd (List.mem_singleton.1 hj).symm h
/-- the order of the widths: each index once -/
def OrdG (n : Nat) (K : List Nat) : Prop := K.Nodup ∧ ∀ i, i ∈ K ↔ i < n
theorem foldG {W : Int} {ws l0 : List Int} (hw : ∀ i, i < ws.length → 1 ≤ gi ws i) : ∀ (K : List Nat) (K' : List Nat) (s : Gs), (K' ++ K).Nodup → (∀ i ∈ K, i < ws.length) → SndG W ws l0 K' s → SndG W ws l0 (K' ++ K) (K.foldl (stepG ws) s)
  | [], K', s, _, _, h => by simpa using h
  | i :: t, K', s, hn, hi, h => by
    have e : K' ++ i :: t = (K' ++ [i]) ++ t := by simp
    rw [e] at hn ⊢
    have hni : i ∉ K' := fun hm => by
      have := List.nodup_append.1 (List.nodup_append.1 hn).1
      exact this.2.2 i hm i (by simp) rfl
    rw [List.foldl_cons]
    exact foldG hw t (K' ++ [i]) _ hn (fun j hj => hi j (List.mem_cons_of_mem _ hj)) (h.next (hi i List.mem_cons_self) hni (hw i (hi i List.mem_cons_self)))
theorem pat_snd {W : Int} {ws l : List Int} {K : List Nat} (hw : ∀ i, i < ws.length → 1 ≤ gi ws i) (hW : 0 ≤ W) (hK : OrdG ws.length K) (hl : l.length = ws.length) (h0 : ∀ i, 0 ≤ gi l i) : SndG W ws l K (patG W ws K l) := by
  have := foldG (W := W) (l0 := l) hw K [] _ (by simpa using hK.1) (fun i hi => (hK.2 i).1 hi) (SndG.start hW hl h0)
  rw [List.nil_append] at this
  exact this
theorem sum_allz : ∀ {l : List Int}, (∀ i, i < l.length → gi l i = 0) → l.sum = 0
  | [], _ => rfl
  | x :: t, h => by
    rw [List.sum_cons, sum_allz (l := t) fun i hi => by have := h (i + 1) (by simpa using hi); simpa [gi] using this]
    have : x = 0 := h 0 (by simp)
    omega
/-- something is slit as long as something is wanted -/
theorem pat_some {W : Int} {ws l : List Int} {K : List Nat} (hw : ∀ i, i < ws.length → 1 ≤ gi ws i ∧ gi ws i ≤ W) (hW : 0 ≤ W) (hK : OrdG ws.length K) (hl : l.length = ws.length) (h0 : ∀ i, 0 ≤ gi l i) (hs : 0 < l.sum) : (patG W ws K l).l.sum < l.sum := by
  have hS := pat_snd (W := W) (fun i hi => (hw i hi).1) hW hK hl h0
  have hc := sumG_pos (ys := (patG W ws K l).c) fun i _ => hS.c0 i
  rcases Int.lt_or_le (patG W ws K l).l.sum l.sum with h | h
  · exact h
  · exfalso
    have ht := hS.tot
    have hz := sumG_zero (ys := (patG W ws K l).c) (fun i _ => hS.c0 i) (by omega)
    have hr := hS.rW
    rw [used_zero hz] at hr
    obtain ⟨i, hi, hp⟩ : ∃ i, i < ws.length ∧ 0 < gi l i := by
      rcases Classical.em (∃ i, i < ws.length ∧ 0 < gi l i) with h | h
      · exact h
      · exfalso
        have hall : ∀ i, i < l.length → gi l i = 0 := fun i hi => by
          have := h0 i
          have : ¬ 0 < gi l i := fun h2 => h ⟨i, by omega, h2⟩
          omega
        have := sum_allz hall
        omega
    have := hS.sum i
    rw [hz i] at this
    have hf := hS.fit i ((hK.2 i).2 hi) (by omega)
    have := (hw i hi).2
    omega
/-- the sets, one after the other -/
def grdN (W : Int) (ws : List Int) (K : List Nat) : Nat → List Int → List (List Int)
  | 0, _ => []
  | k + 1, l => if 0 < l.sum then (patG W ws K l).c :: grdN W ws K k (patG W ws K l).l else []
def grdL (W : Int) (ws : List Int) (K : List Nat) (l : List Int) : List (List Int) := grdN W ws K l.sum.toNat l
theorem grdN_fuel {W : Int} {ws : List Int} {K : List Nat} (hw : ∀ i, i < ws.length → 1 ≤ gi ws i ∧ gi ws i ≤ W) (hW : 0 ≤ W) (hK : OrdG ws.length K) : ∀ (k m : Nat) (l : List Int), l.length = ws.length → (∀ i, 0 ≤ gi l i) → l.sum.toNat ≤ k → l.sum.toNat ≤ m → grdN W ws K k l = grdN W ws K m l
  | 0, 0, _, _, _, _, _ => rfl
  | 0, m + 1, l, _, _, h, _ => by rw [grdN, grdN, if_neg (by omega)]
  | k + 1, 0, l, _, _, _, h => by rw [grdN, grdN, if_neg (by omega)]
  | k + 1, m + 1, l, hl, h0, h1, h2 => by
    rw [grdN, grdN]
    by_cases hs : 0 < l.sum
    · rw [if_pos hs, if_pos hs]
      have hS := pat_snd (W := W) (fun i hi => (hw i hi).1) hW hK hl h0
      have hd := pat_some hw hW hK hl h0 hs
      rw [grdN_fuel hw hW hK k m _ hS.ll hS.l0' (by omega) (by omega)]
    · rw [if_neg hs, if_neg hs]
theorem grdL_step {W : Int} {ws : List Int} {K : List Nat} (hw : ∀ i, i < ws.length → 1 ≤ gi ws i ∧ gi ws i ≤ W) (hW : 0 ≤ W) (hK : OrdG ws.length K) {l : List Int} (hl : l.length = ws.length) (h0 : ∀ i, 0 ≤ gi l i) (hs : 0 < l.sum) :
    grdL W ws K l = (patG W ws K l).c :: grdL W ws K (patG W ws K l).l := by
  have hS := pat_snd (W := W) (fun i hi => (hw i hi).1) hW hK hl h0
  have hd := pat_some hw hW hK hl h0 hs
  obtain ⟨q, hq⟩ : ∃ q, l.sum.toNat = q + 1 := ⟨l.sum.toNat - 1, by omega⟩
  unfold grdL
  rw [hq, grdN, if_pos hs, grdN_fuel hw hW hK q _ _ hS.ll hS.l0' (by omega) (Nat.le_refl _)]
theorem grdL_end {W : Int} {ws : List Int} {K : List Nat} {l : List Int} (hs : ¬ 0 < l.sum) : grdL W ws K l = [] := by
  unfold grdL
  rw [show l.sum.toNat = 0 by omega]; rfl
theorem grdL_len {W : Int} {ws : List Int} {K : List Nat} : ∀ (k : Nat) (l : List Int), (grdN W ws K k l).length ≤ k
  | 0, _ => Nat.le_refl _
  | k + 1, l => by
    rw [grdN]
    split
    · have := grdL_len (W := W) (ws := ws) (K := K) k (patG W ws K l).l
      rw [List.length_cons]; omega
    · simp
end Go.Proofs.YtkgepklapglmdaaGreatDoor

namespace Go.Proofs.YtkgepklapglmdaaGreatDoor
open Go.RowKit

/-- the widest first -/
def DescG (ws : List Int) (K : List Nat) : Prop := OrdG ws.length K ∧ K.Pairwise fun a b => gi ws b < gi ws a
theorem desc_unique {ws : List Int} {K K' : List Nat} (h : DescG ws K) (h' : DescG ws K') : K = K' := by
  have hp : K.Perm K' := (List.perm_ext_iff_of_nodup h.1.1 h'.1.1).2 fun a => (h.1.2 a).trans (h'.1.2 a).symm
  refine List.Perm.eq_of_pairwise (le := fun a b => gi ws b < gi ws a) (fun a b _ _ h1 h2 => absurd h1 (by omega)) h.2 h'.2 hp
/-- the widths are distinct -/
theorem wid_ne {W : Int} {ws : List Int} (h : vWid W ws = true) {i j : Nat} (hi : i < ws.length) (hj : j < ws.length) (hne : i ≠ j) : gi ws i ≠ gi ws j := by
  have h1 := (vWid_iff.1 h).2.2.2.2
  have key : ∀ i j, i < j → j < ws.length → gi ws i ≠ gi ws j := fun i j hij hj e => by
    have h2 := (wOk_rng (h1 j hj)).2.2
    have h3 : inL (ws.take j) (gi ws j) = true := by
      unfold inL
      rw [List.any_eq_true]
      refine ⟨gi ws i, ?_, by simp [e]⟩
      rw [gi_eq (by omega)]
      exact List.mem_take_iff_getElem.2 ⟨i, by omega, rfl⟩
    rw [h3] at h2; cases h2
  rcases Nat.lt_or_gt_of_ne hne with h | h
  · exact key i j h hj
  · exact (key j i h hi).symm
/-- the indices, the widest first -/
def kOrd (ws : List Int) : List Nat := (List.range ws.length).mergeSort fun a b => decide (gi ws b ≤ gi ws a)
theorem kOrd_desc {W : Int} {ws : List Int} (h : vWid W ws = true) : DescG ws (kOrd ws) := by
  have hp : (kOrd ws).Perm (List.range ws.length) := List.mergeSort_perm _ _
  have hm : ∀ i, i ∈ kOrd ws ↔ i < ws.length := fun i => hp.mem_iff.trans List.mem_range
  have hn : (kOrd ws).Nodup := hp.nodup_iff.2 List.nodup_range
  refine ⟨⟨hn, hm⟩, ?_⟩
  have hs := List.pairwise_mergeSort (le := fun a b => decide (gi ws b ≤ gi ws a)) (fun a b c h1 h2 => by simp only [decide_eq_true_eq] at *; omega) (fun a b => by simp only [Bool.or_eq_true, decide_eq_true_eq]; omega) (List.range ws.length)
  have hs2 : (kOrd ws).Pairwise fun a b => gi ws b ≤ gi ws a := hs.imp fun h => of_decide_eq_true h
  have hboth := List.Pairwise.and hs2 (List.nodup_iff_pairwise_ne.1 hn)
  refine List.Pairwise.imp_of_mem (fun {a b} ha hb hab => ?_) hboth
  have hne := wid_ne h ((hm a).1 ha) ((hm b).1 hb) hab.2
  have := hab.1
  omega
/-- wants are valid -/
def vWan (W : Int) (ws xs : List Int) : Bool := vWid W ws && decide (xs.length = ws.length) && allR 0 20 xs && decide (xs.sum ≤ 60)
theorem vWan_iff {W : Int} {ws xs : List Int} : vWan W ws xs = true ↔ vWid W ws = true ∧ xs.length = ws.length ∧ (∀ i, i < xs.length → 0 ≤ gi xs i ∧ gi xs i ≤ 20) ∧ xs.sum ≤ 60 := by
  unfold vWan
  rw [Bool.and_eq_true, Bool.and_eq_true, Bool.and_eq_true, decide_eq_true_eq, decide_eq_true_eq, allR_iff]
  constructor
  · rintro ⟨⟨⟨a, b⟩, c⟩, d⟩; exact ⟨a, b, c, d⟩
  · rintro ⟨a, b, c, d⟩; exact ⟨⟨⟨a, b⟩, c⟩, d⟩
/-- the sets -/
def gsL (W : Int) (ws xs : List Int) : List (List Int) := if vWan W ws xs = true then grdL W ws (kOrd ws) xs else []
theorem gi_nn {xs : List Int} (h : ∀ i, i < xs.length → 0 ≤ gi xs i) (i : Nat) : 0 ≤ gi xs i := by
  rcases Nat.lt_or_ge i xs.length with h1 | h1
  · exact h i h1
  · rw [show gi xs i = 0 by simp [gi, h1]]; omega
theorem gsL_len (W : Int) (ws xs : List Int) : (gsL W ws xs).length ≤ 60 := by
  unfold gsL
  split
  · rename_i h
    have h1 := vWan_iff.1 h
    have := grdL_len (W := W) (ws := ws) (K := kOrd ws) xs.sum.toNat xs
    have h2 := sumG_pos (ys := xs) fun i hi => (h1.2.2.1 i hi).1
    unfold grdL
    omega
  · simp
end Go.Proofs.YtkgepklapglmdaaGreatDoor
