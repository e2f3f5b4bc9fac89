/-
  Lemmas and contracts of single functions of this program, used by the proofs of its laws: what each call returns and what becomes of memory. Conditions: the hypotheses of each theorem.
-/
import Derived.Test.YtkgepklapglmdaaGreatDoorMillP
namespace Go.Proofs.YtkgepklapglmdaaGreatDoor
open Go.RowKit

-- areas are counted place by place: the cuts of a valid reel have no more than the reel
def rs : Nat → (Nat → Int) → Int
  | 0, _ => 0
  | n + 1, f => rs n f + f n
theorem rs_le {c : Int} : ∀ {n : Nat} {f : Nat → Int}, (∀ i, i < n → f i ≤ c) → rs n f ≤ n * c
  | 0, _, _ => by simp [rs]
  | n + 1, f, h => by
    have h1 := rs_le (n := n) (f := f) fun i hi => h i (by omega)
    have h2 := h n (by omega)
    show rs n f + f n ≤ _
    rw [show ((n + 1 : Nat) : Int) * c = n * c + c by rw [Int.natCast_add, Int.add_mul]; simp]
    omega
theorem rs_zero : ∀ n : Nat, rs n (fun _ => 0) = 0
  | 0 => rfl
  | n + 1 => by show rs n _ + 0 = 0; rw [rs_zero n]; rfl
theorem rs_add (f g : Nat → Int) : ∀ n : Nat, rs n (fun i => f i + g i) = rs n f + rs n g
  | 0 => rfl
  | n + 1 => by show rs n _ + (f n + g n) = rs n f + f n + (rs n g + g n); rw [rs_add f g n]; omega
theorem rs_congr {f g : Nat → Int} : ∀ {n : Nat}, (∀ i, i < n → f i = g i) → rs n f = rs n g
  | 0, _ => rfl
  | n + 1, h => by show rs n f + f n = rs n g + g n; rw [rs_congr fun i hi => h i (by omega), h n (by omega)]
theorem rs_ind (a b c : Int) (ha : 0 ≤ a) (hab : a ≤ b) : ∀ n : Nat, rs n (fun i => if a ≤ (i : Int) ∧ (i : Int) < b then c else 0) = (min b n - min a n) * c
  | 0 => by show (0 : Int) = _; rw [show min b ((0 : Nat) : Int) - min a ((0 : Nat) : Int) = 0 by omega]; simp
  | n + 1 => by
    show rs n (fun i => if a ≤ (i : Int) ∧ (i : Int) < b then c else 0) + (if a ≤ (n : Int) ∧ (n : Int) < b then c else 0) = _
    rw [rs_ind a b c ha hab n]
    by_cases h : a ≤ (n : Int) ∧ (n : Int) < b
    · rw [if_pos h, show min b ((n + 1 : Nat) : Int) - min a ((n + 1 : Nat) : Int) = (min b n - min a n) + 1 by omega, Int.add_mul, Int.one_mul]
    · rw [if_neg h, show min b ((n + 1 : Nat) : Int) - min a ((n + 1 : Nat) : Int) = min b n - min a n by omega, Int.add_zero]
/-- does a part cover a place -/
def cov (p : List Int) (x y : Nat) : Int := if (gi p 0 ≤ (x : Int) ∧ (x : Int) < gi p 1) ∧ (gi p 2 ≤ (y : Int) ∧ (y : Int) < gi p 3) then 1 else 0
theorem cov_area {p : List Int} {W L : Nat} (h : pv p W L = true) : rs W (fun x => rs L (fun y => cov p x y)) = areaP p := by
  have hi := insB_true h
  have e : ∀ x, x < W → rs L (fun y => cov p x y) = if gi p 0 ≤ (x : Int) ∧ (x : Int) < gi p 1 then gi p 3 - gi p 2 else 0 := fun x _ => by
    by_cases hx : gi p 0 ≤ (x : Int) ∧ (x : Int) < gi p 1
    · rw [if_pos hx, rs_congr (g := fun y => if gi p 2 ≤ (y : Int) ∧ (y : Int) < gi p 3 then 1 else 0) (fun y _ => by simp only [cov, hx, true_and, and_self]), rs_ind _ _ 1 (by omega) (by omega), Int.mul_one]
      omega
    · rw [if_neg hx, rs_congr (g := fun _ => 0) (fun y _ => by simp only [cov, hx, false_and, if_false]), rs_zero]
  rw [rs_congr e, rs_ind _ _ _ (by omega) (by omega)]
  unfold areaP
  rw [show min (gi p 1) (W : Int) = gi p 1 by omega, show min (gi p 0) (W : Int) = gi p 0 by omega]
theorem sum_swap (n : Nat) (g : List Int → Nat → Int) : ∀ ps : List (List Int), (ps.map fun p => rs n (g p)).sum = rs n fun i => (ps.map fun p => g p i).sum
  | [] => by simp [rs_zero]
  | p :: t => by
    rw [List.map_cons, List.sum_cons, sum_swap n g t, ← rs_add]
    exact rs_congr fun i _ => by rw [List.map_cons, List.sum_cons]
theorem cov_once {x y : Nat} : ∀ {ps : List (List Int)}, ps.Pairwise (fun p q => mT q p = false) → (ps.map fun p => cov p x y).sum ≤ 1
  | [], _ => by simp
  | p :: t, h => by
    rw [List.pairwise_cons] at h
    rw [List.map_cons, List.sum_cons]
    by_cases hp : (gi p 0 ≤ (x : Int) ∧ (x : Int) < gi p 1) ∧ (gi p 2 ≤ (y : Int) ∧ (y : Int) < gi p 3)
    · have hz : ∀ u : List (List Int), (∀ q ∈ u, mT q p = false) → (u.map fun p => cov p x y).sum = 0 := by
        intro u
        induction u with
        | nil => intro _; rfl
        | cons q v ih =>
          intro hu
          rw [List.map_cons, List.sum_cons, ih fun z hz => hu z (List.mem_cons_of_mem _ hz)]
          have hq := hu q List.mem_cons_self
          have : ¬ ((gi q 0 ≤ (x : Int) ∧ (x : Int) < gi q 1) ∧ (gi q 2 ≤ (y : Int) ∧ (y : Int) < gi q 3)) := fun hc => by
            have : mT q p = true := meetB_iff.2 ⟨by omega, by omega, by omega, by omega⟩
            rw [hq] at this; cases this
          unfold cov
          rw [if_neg this]; rfl
      rw [hz t h.1]
      unfold cov
      rw [if_pos hp]; decide
    · have := cov_once (x := x) (y := y) h.2
      have e : cov p x y = 0 := if_neg hp
      rw [e]; omega
theorem pair_cuts {W L : Int} {ds ps : List (List Int)} (h : vCuts W L ds ps = true) : ps.Pairwise (fun p q => mT q p = false) := by
  rw [List.pairwise_iff_getElem]
  intro i j hi hj hij
  have hc := (vCuts_iff.1 h).2.2 j hj
  unfold cutOk at hc
  rw [Bool.and_eq_true] at hc
  have := (noMeet_iff (by omega)).1 hc.2 i hij
  rw [gr_eq hj, gr_eq hi] at this
  exact this
theorem sum_areas {W L : Int} {ds ps : List (List Int)} (h : vCuts W L ds ps = true) : (ps.map areaP).sum ≤ W * L := by
  have hr := vReel_rng (vCuts_iff.1 h).1
  obtain ⟨a, rfl⟩ := Int.eq_ofNat_of_zero_le (show 0 ≤ W by omega)
  obtain ⟨b, rfl⟩ := Int.eq_ofNat_of_zero_le (show 0 ≤ L by omega)
  have hp := pair_cuts h
  have e1 : ps.map areaP = ps.map fun p => rs a (fun x => rs b (fun y => cov p x y)) := by
    refine List.map_congr_left fun p hp => ?_
    obtain ⟨j, hj, rfl⟩ := List.mem_iff_getElem.1 hp
    have hc := (vCuts_iff.1 h).2.2 j hj
    unfold cutOk at hc
    rw [Bool.and_eq_true, gr_eq hj] at hc
    exact (cov_area hc.1).symm
  rw [e1, sum_swap]
  have e2 : ∀ x, x < a → (ps.map fun p => rs b (fun y => cov p x y)).sum ≤ (b : Int) := fun x _ => by
    rw [sum_swap b fun p y => cov p x y]
    have := rs_le (n := b) (c := 1) (f := fun y => (ps.map fun p => cov p x y).sum) fun y _ => cov_once hp
    omega
  have := rs_le (n := a) (c := (b : Int)) e2
  simpa using this
theorem fold_le (ok : List Int → Bool) : ∀ (ps : List (List Int)) (n : Int), (∀ p ∈ ps, 0 ≤ areaP p) → n ≤ ps.foldl (fun n p => if ok p = true then n + areaP p else n) n ∧ ps.foldl (fun n p => if ok p = true then n + areaP p else n) n ≤ n + (ps.map areaP).sum
  | [], n, _ => by simp
  | p :: t, n, h => by
    have h0 := h p List.mem_cons_self
    rw [List.foldl_cons, List.map_cons, List.sum_cons]
    by_cases hp : ok p = true
    · rw [if_pos hp]
      have := fold_le ok t (n + areaP p) fun q hq => h q (List.mem_cons_of_mem _ hq)
      omega
    · rw [if_neg hp]
      have := fold_le ok t n fun q hq => h q (List.mem_cons_of_mem _ hq)
      omega
theorem good_le {e : Ent} (h : vEnt e = true) (g : Int) : 0 ≤ goodA e g ∧ goodA e g ≤ e.W * e.L := by
  have hs := sum_areas (vEnt_iff.1 h).2.2
  have := fold_le (fun p => decide (worstL e.ds p ≤ g)) e.ps 0 fun p hp => by
    obtain ⟨j, hj, rfl⟩ := List.mem_iff_getElem.1 hp
    have := areaP_rng h hj
    rw [gr_eq hj] at this
    exact this.1
  unfold goodA
  simp only [decide_eq_true_eq] at this
  omega
end Go.Proofs.YtkgepklapglmdaaGreatDoor
