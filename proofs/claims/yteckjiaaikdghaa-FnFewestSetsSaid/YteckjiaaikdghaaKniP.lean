/-
  Lemmas and contracts of single functions of this program, used by the proofs of its laws: what each call returns and what becomes of memory. Conditions: the hypotheses of each theorem.
-/
import Derived.Test.YteckjiaaikdghaaLeafR
namespace Go.Proofs.Yteckjiaaikdghaa
open Go.RowKit

/-! knives: the program's table of ways (with a far number) and the reference's (with -1) say the same -/
def vKn (xs : List Int) : Bool := decide (xs.length ≤ 24) && allR 0 60 xs && (List.range xs.length).all fun i => decide (i = 0 ∨ gi xs (i - 1) < gi xs i)
theorem vKn_iff {xs : List Int} : vKn xs = true ↔ xs.length ≤ 24 ∧ (∀ i, i < xs.length → 0 ≤ gi xs i ∧ gi xs i ≤ 60) ∧ ∀ i, i < xs.length → i = 0 ∨ gi xs (i - 1) < gi xs i := by
  unfold vKn
  rw [Bool.and_eq_true, Bool.and_eq_true, decide_eq_true_eq, allR_iff, List.all_eq_true]
  constructor
  · rintro ⟨⟨h1, h2⟩, h3⟩
    exact ⟨h1, h2, fun i hi => of_decide_eq_true (h3 i (List.mem_range.2 hi))⟩
  · rintro ⟨h1, h2, h3⟩
    exact ⟨⟨h1, h2⟩, fun i hi => decide_eq_true (h3 i (List.mem_range.1 hi))⟩
def wayI (x y : Int) : Int := max (x - y) (y - x)
theorem wayI_rng {x y : Int} (hx : 0 ≤ x ∧ x ≤ 60) (hy : 0 ≤ y ∧ y ≤ 60) : 0 ≤ wayI x y ∧ wayI x y ≤ 60 := by unfold wayI; omega
/-- one row of the reference's table -/
def mvR (x : Int) (b : List Int) (p : Nat → Int) : Nat → Int
  | 0 => -1
  | j + 1 => if 0 ≤ p j then (if mvR x b p j < 0 ∨ p j + wayI x (gi b j) < mvR x b p j then p j + wayI x (gi b j) else mvR x b p j) else mvR x b p j
def mvT (a b : List Int) : Nat → Nat → Int
  | 0 => fun _ => 0
  | i + 1 => mvR (gi a i) b (mvT a b i)
/-- one row of the program's table -/
def lwR (i : Nat) (x : Int) (b : List Int) (p : Nat → Int) : Nat → Int
  | 0 => 1441
  | j + 1 => if i ≤ j then min (lwR i x b p j) (p j + wayI x (gi b j)) else 1441
def lwT (a b : List Int) : Nat → Nat → Int
  | 0 => fun _ => 0
  | i + 1 => lwR i (gi a i) b (lwT a b i)
theorem lw_mv {a b : List Int} (ha : ∀ i, i < a.length → 0 ≤ gi a i ∧ gi a i ≤ 60) (hb : ∀ i, i < b.length → 0 ≤ gi b i ∧ gi b i ≤ 60) (hl : a.length ≤ 24) : ∀ i, i ≤ a.length → ∀ j, j ≤ b.length →
    (i ≤ j → lwT a b i j = mvT a b i j ∧ 0 ≤ mvT a b i j ∧ mvT a b i j ≤ 60 * i) ∧ (j < i → lwT a b i j = 1441 ∧ mvT a b i j = -1)
  | 0, _, j, _ => ⟨fun _ => ⟨rfl, Int.le_refl _, by show (0 : Int) ≤ 60 * ((0 : Nat) : Int); omega⟩, fun h => absurd h (by omega)⟩
  | i + 1, hi, 0, _ => ⟨fun h => absurd h (by omega), fun _ => ⟨rfl, rfl⟩⟩
  | i + 1, hi, j + 1, hj => by
    have ih1 := lw_mv ha hb hl i (by omega) j (by omega)
    have ih2 := lw_mv ha hb hl (i + 1) hi j (by omega)
    have hw := wayI_rng (ha i (by omega)) (hb j (by omega))
    have e1 : lwT a b (i + 1) (j + 1) = if i ≤ j then min (lwT a b (i + 1) j) (lwT a b i j + wayI (gi a i) (gi b j)) else 1441 := rfl
    have e2 : mvT a b (i + 1) (j + 1) = if 0 ≤ mvT a b i j then (if mvT a b (i + 1) j < 0 ∨ mvT a b i j + wayI (gi a i) (gi b j) < mvT a b (i + 1) j then mvT a b i j + wayI (gi a i) (gi b j) else mvT a b (i + 1) j) else mvT a b (i + 1) j := rfl
    obtain ⟨A, hA⟩ : ∃ A, A = lwT a b (i + 1) j := ⟨_, rfl⟩
    obtain ⟨B, hB⟩ : ∃ A, A = lwT a b i j := ⟨_, rfl⟩
    obtain ⟨C, hC⟩ : ∃ A, A = mvT a b (i + 1) j := ⟨_, rfl⟩
    obtain ⟨D, hD⟩ : ∃ A, A = mvT a b i j := ⟨_, rfl⟩
    obtain ⟨w, hw'⟩ : ∃ w, w = wayI (gi a i) (gi b j) := ⟨_, rfl⟩
    rw [← hA, ← hB, ← hw'] at e1
    rw [← hC, ← hD, ← hw'] at e2
    rw [← hA, ← hC] at ih2
    rw [← hB, ← hD] at ih1
    rw [← hw'] at hw
    rw [e1, e2]
    have hc : ((i + 1 : Nat) : Int) = (i : Int) + 1 := by omega
    rw [hc] at ih2 ⊢
    clear e1 e2 hA hB hC hD hw'
    constructor
    · intro hij
      have h1 := ih1.1 (by omega)
      rw [if_pos (show i ≤ j by omega), if_pos h1.2.1]
      rcases Nat.lt_or_ge j (i + 1) with hlt | hge
      · have h2 := ih2.2 hlt
        rw [if_pos (.inl (by omega))]
        have : min A (B + w) = D + w := by omega
        rw [this]; omega
      · have h2 := ih2.1 hge
        by_cases h3 : C < 0 ∨ D + w < C
        · rw [if_pos h3]
          have : min A (B + w) = D + w := by omega
          rw [this]; omega
        · rw [if_neg h3]
          have : min A (B + w) = C := by omega
          rw [this]; omega
    · intro hij
      have h2 := ih2.2 (by omega)
      rw [if_neg (show ¬ i ≤ j by omega)]
      rcases Nat.lt_or_ge j i with hlt | hge
      · have h1 := ih1.2 hlt
        rw [if_neg (by omega)]
        exact ⟨rfl, h2.2⟩
      · omega
/-- the way from some places to others -/
def mvL (a b : List Int) : Int := if b.length < a.length then mvT b a b.length a.length else mvT a b a.length b.length
theorem mvL_rng {a b : List Int} (ha : vKn a = true) (hb : vKn b = true) : 0 ≤ mvL a b ∧ mvL a b ≤ 1440 := by
  have h1 := vKn_iff.1 ha
  have h2 := vKn_iff.1 hb
  unfold mvL
  split
  · have := ((lw_mv h2.2.1 h1.2.1 h2.1 b.length (Nat.le_refl _) a.length (Nat.le_refl _)).1 (by omega)).2
    omega
  · have := ((lw_mv h1.2.1 h2.2.1 h1.1 a.length (Nat.le_refl _) b.length (Nat.le_refl _)).1 (by omega)).2
    omega
theorem mv_lw {a b : List Int} (ha : vKn a = true) (hb : vKn b = true) (hl : a.length ≤ b.length) : lwT a b a.length b.length = mvL a b := by
  have h1 := vKn_iff.1 ha
  have h2 := vKn_iff.1 hb
  unfold mvL
  rw [if_neg (by omega)]
  exact ((lw_mv h1.2.1 h2.2.1 h1.1 a.length (Nat.le_refl _) b.length (Nat.le_refl _)).1 hl).1
theorem mvL_swap {a b : List Int} (hl : b.length < a.length) : mvL a b = mvL b a := by
  unfold mvL; rw [if_pos hl, if_neg (by omega)]
def vSets (m : Nat) (L : List (List Int)) : Bool := decide (L.length ≤ m) && L.all vKn
theorem vSets_iff {m : Nat} {L : List (List Int)} : vSets m L = true ↔ L.length ≤ m ∧ ∀ i, i < L.length → vKn (gr L i) = true := by
  unfold vSets
  rw [Bool.and_eq_true, decide_eq_true_eq, List.all_eq_true]
  constructor
  · rintro ⟨h1, h2⟩; exact ⟨h1, fun i hi => h2 _ (gr_mem hi)⟩
  · rintro ⟨h1, h2⟩
    refine ⟨h1, fun x hx => ?_⟩
    obtain ⟨i, hi, rfl⟩ := List.mem_iff_getElem.1 hx
    rw [← gr_eq hi]; exact h2 i hi
/-- the ways of an order, up to its k-th step -/
def cstK (L : List (List Int)) (o : List Int) : Nat → Int
  | 0 => 0
  | k + 1 => cstK L o k + mvL (gr L (gi o k).toNat) (gr L (gi o (k + 1)).toNat)
def cstL (L : List (List Int)) (o : List Int) : Int := cstK L o (o.length - 1)
theorem cstK_rng {m : Nat} {L : List (List Int)} {o : List Int} (h : vSets m L = true) (ho : ∀ k, k < o.length → (gi o k).toNat < L.length) : ∀ k, k < o.length ∨ k = 0 → 0 ≤ cstK L o k ∧ cstK L o k ≤ 1440 * k
  | 0, _ => ⟨Int.le_refl _, by show (0 : Int) ≤ 1440 * ((0 : Nat) : Int); omega⟩
  | k + 1, hk => by
    have hk' : k + 1 < o.length := by omega
    have ih := cstK_rng h ho k (by omega)
    have hv := (vSets_iff.1 h).2
    have := mvL_rng (hv _ (ho k (by omega))) (hv _ (ho (k + 1) hk'))
    show 0 ≤ cstK L o k + mvL _ _ ∧ cstK L o k + mvL _ _ ≤ 1440 * ((k + 1 : Nat) : Int)
    omega
end Go.Proofs.Yteckjiaaikdghaa
