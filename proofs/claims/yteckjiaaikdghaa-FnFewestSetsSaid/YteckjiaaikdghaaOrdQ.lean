/-
  Lemmas and contracts of single functions of this program, used by the proofs of its laws: what each call returns and what becomes of memory. Conditions: the hypotheses of each theorem.
-/
import Derived.Test.YteckjiaaikdghaaPieR
import Derived.Test.YteckjiaaikdghaaPickR
import Derived.Test.YteckjiaaikdghaaOrdP
namespace Go.Proofs.Yteckjiaaikdghaa
open Go.RowKit

/-! the number of pieces; orders pick a permutation; all orders are looked at -/
theorem run_sound {P W : List Int} (hW : ∀ j, j < W.length → 1 ≤ gi W j) (hP : ∀ j, j < P.length → 1 ≤ gi P j) (h : sumFrom W 0 ≤ sumFrom P 0) : ∀ k, Snd P W (runP P W (Pst.start W) k) ∧ Few (runP P W (Pst.start W) k)
  | 0 => ⟨Snd.start hW hP h, by unfold Few runP Pst.start; simp⟩
  | k + 1 => by
    obtain ⟨h1, h2⟩ := run_sound hW hP h k
    show Snd P W (stepP P W (runP P W (Pst.start W) k)) ∧ Few (stepP P W (runP P W (Pst.start W) k))
    obtain ⟨s, hs⟩ : ∃ s, s = runP P W (Pst.start W) k := ⟨_, rfl⟩
    rw [← hs] at h1 h2 ⊢
    unfold stepP
    split
    · exact ⟨h1, h2⟩
    · rename_i hi
      split
      · rename_i hw
        exact ⟨(h1.cut hP hW hw).1, h2.cut h1 hw⟩
      · rename_i hw
        have hz : s.want = 0 := by have := h1.2.2.2.2.2.1; omega
        exact ⟨h1.next hW (by omega) hz, h2.next hz⟩
theorem run_count {P W : List Int} : ∀ k, (runP P W (Pst.start W) k).i < W.length → (runP P W (Pst.start W) k).acc.length + (runP P W (Pst.start W) k).i = k
  | 0, _ => rfl
  | k + 1, h => by
    have ih := run_count (P := P) (W := W) k
    change (stepP P W (runP P W (Pst.start W) k)).i < W.length at h
    show (stepP P W (runP P W (Pst.start W) k)).acc.length + (stepP P W (runP P W (Pst.start W) k)).i = k + 1
    obtain ⟨s, hs⟩ : ∃ s, s = runP P W (Pst.start W) k := ⟨_, rfl⟩
    rw [← hs] at h ih ⊢
    unfold stepP at h ⊢
    split at h
    · omega
    · rename_i hi
      rw [if_neg hi]
      have ih' := ih (by omega)
      split at h
      · rename_i hw
        rw [if_pos hw]
        unfold cutP
        dsimp only
        split <;> simp only [List.length_append, List.length_singleton] <;> omega
      · rename_i hw
        rw [if_neg hw]
        dsimp only
        omega
/-- how many pieces there are -/
def nPc (P W : List Int) : Nat := (runP P W (Pst.start W) 400).acc.length
theorem run_rolls {P W : List Int} : ∀ k, ∀ row ∈ (runP P W (Pst.start W) k).acc, row.length = 4 ∧ ∃ r : Nat, gi row 1 = (r : Int) ∧ r < W.length
  | 0, row, h => absurd h (by simp [runP, Pst.start])
  | k + 1, row, h => by
    have ih := run_rolls (P := P) (W := W) k
    change row ∈ (stepP P W (runP P W (Pst.start W) k)).acc at h
    obtain ⟨s, hs⟩ : ∃ s, s = runP P W (Pst.start W) k := ⟨_, rfl⟩
    rw [← hs] at h ih
    unfold stepP at h
    split at h
    · exact ih row h
    · rename_i hi
      split at h
      · unfold cutP at h
        dsimp only at h
        split at h
        all_goals
          rcases List.mem_append.1 h with h | h
          · exact ih row h
          · rw [List.mem_singleton.1 h]
            exact ⟨rfl, s.i, rfl, by omega⟩
      · exact ih row h
theorem few_pieces {P W : List Int} (he : enL P W 0 = true) (k : Nat) : (runP P W (Pst.start W) k).acc.length ≤ 130 ∧ (runP P W (Pst.start W) k).i ≤ W.length := by
  obtain ⟨h1, h2, h3, h4, h5⟩ := en_sums he
  obtain ⟨s1, s2⟩ := run_sound (fun j hj => (h1 j hj).1) (fun j hj => (h2 j hj).1) h5 k
  have a1 := s1.1
  have a2 := s1.2.1
  unfold Few at s2
  refine ⟨?_, a1⟩
  split at s2 <;> omega
theorem run_all {P W : List Int} (he : enL P W 0 = true) {k : Nat} (hk : (runP P W (Pst.start W) k).i = W.length) : (runP P W (Pst.start W) k).acc.length = nPc P W := by
  have h4 : W.length ≤ (runP P W (Pst.start W) 400).i := by
    rcases Nat.lt_or_ge (runP P W (Pst.start W) 400).i W.length with h | h
    · have := run_count (P := P) 400 h
      have := (few_pieces he 400).1
      have := (en_sums he).2.2.2.1
      omega
    · exact h
  unfold nPc
  rw [runP_end (Nat.le_of_eq hk.symm) h4]
theorem nPc_le {P W : List Int} (he : enL P W 0 = true) : nPc P W ≤ 130 := (few_pieces he 400).1
/-- the splices of all rolls together -/
def splT (P W : List Int) : Int := (nPc P W : Int) - W.length
theorem range_ord {n : Nat} {ord : List Int} (hb : Begun n ord) (hl : ord.length = n) : ord.Perm ((List.range n).map fun (i : Nat) => (i : Int)) := by
  have hn : ((List.range n).map fun (i : Nat) => (i : Int)).Nodup := List.Pairwise.map _ (fun a b hab => by omega) List.nodup_range
  refine (List.perm_ext_iff_of_nodup hb.1 hn).2 fun x => ⟨fun hx => ?_, fun hx => ?_⟩
  · obtain ⟨h1, h2⟩ := hb.2 x hx
    obtain ⟨i, rfl⟩ := Int.eq_ofNat_of_zero_le h1
    exact List.mem_map.2 ⟨i, List.mem_range.2 (by omega), rfl⟩
  · rcases Classical.em (x ∈ ord) with h | h
    · exact h
    · have h3 := sub_len (l := x :: ord) (m := (List.range n).map fun (i : Nat) => (i : Int)) (List.nodup_cons.2 ⟨h, hb.1⟩) fun y hy => by
        rcases List.mem_cons.1 hy with rfl | hy
        · exact hx
        · obtain ⟨h1, h2⟩ := hb.2 y hy
          obtain ⟨i, rfl⟩ := Int.eq_ofNat_of_zero_le h1
          exact List.mem_map.2 ⟨i, List.mem_range.2 (by omega), rfl⟩
      rw [List.length_map, List.length_range, List.length_cons] at h3
      omega
theorem pick_range (W : List Int) : pickO W ((List.range W.length).map fun (i : Nat) => (i : Int)) = W := by
  unfold pickO
  rw [List.map_map]
  apply List.ext_getElem
  · simp
  · intro i h1 h2
    simp [gi, h2]
theorem pick_perm {W ord : List Int} (hb : Begun W.length ord) (hl : ord.length = W.length) : (pickO W ord).Perm W := by
  have h := (range_ord hb hl).map fun x => gi W x.toNat
  have e := pick_range W
  unfold pickO at e ⊢
  rw [e] at h
  exact h
theorem sum_perm : ∀ {a b : List Int}, a.Perm b → a.sum = b.sum
  | _, _, .nil => rfl
  | _, _, .cons x h => by rw [List.sum_cons, List.sum_cons, sum_perm h]
  | _, _, .swap x y l => by simp only [List.sum_cons]; omega
  | _, _, .trans h k => (sum_perm h).trans (sum_perm k)
theorem sumI_sum (W : List Int) : sumI W W.length = W.sum := by
  have := sum_from W W.length (Nat.le_refl _)
  rw [sumFrom_end (Nat.le_refl _)] at this
  have e : sumFrom W 0 = W.sum := by simp [sumFrom]
  omega
theorem vLen_perm {a b : List Int} (h : a.Perm b) (hv : vLen b = true) : vLen a = true := by
  obtain ⟨h1, h2⟩ := vLen_iff.1 hv
  refine vLen_iff.2 ⟨by rw [h.length_eq]; exact h1, fun i hi => ?_⟩
  have hm : gi a i ∈ b := h.mem_iff.1 (by rw [gi_eq hi]; exact List.getElem_mem hi)
  obtain ⟨j, hj, he⟩ := List.mem_iff_getElem.1 hm
  have := h2 j hj
  rw [gi_eq hj, he] at this
  exact this
theorem en_perm {P W V : List Int} (h : V.Perm W) (he : enL P W 0 = true) : enL P V 0 = true := by
  unfold enL at he ⊢
  simp only [Bool.and_eq_true, decide_eq_true_eq] at he ⊢
  obtain ⟨⟨h1, h2⟩, h3, h4⟩ := he
  refine ⟨⟨h1, vLen_perm h h2⟩, h3, ?_⟩
  rw [sumI_sum V, sum_perm h, ← sumI_sum W]; exact h4
/-- what an order costs: the splices of the rolls in that order -/
def cSpl (P W ord : List Int) : Int := splT P (pickO W ord)

/-- every whole order that begins so is looked at -/
theorem allO_all {n : Nat} : ∀ (d : Nat) {pre t : List Int}, Begun n (pre ++ t) → t.length = d → pre ++ t ∈ allO n d pre
  | 0, pre, t, _, hl => by
    have : t = [] := List.eq_nil_of_length_eq_zero hl
    subst this
    simp [allO]
  | d + 1, pre, [], _, hl => by simp at hl
  | d + 1, pre, x :: t, h, hl => by
    have e : pre ++ x :: t = (pre ++ [x]) ++ t := by simp
    refine List.mem_flatMap.2 ⟨x, restO_mem.2 ⟨h.2 x (by simp), ?_⟩, ?_⟩
    · cases hb : inL pre x
      · rfl
      · have h1 := (List.nodup_append.1 h.1).2.2 x (inL_mem.1 hb) x List.mem_cons_self
        exact absurd rfl h1
    · rw [e] at h ⊢
      exact allO_all d h (by simpa using hl)
theorem firstO_least {c : List Int → Int} : ∀ {l : List (List Int)} {b : List Int}, b ≠ [] → (∀ o ∈ l, o ≠ []) → firstO c b l ≠ [] ∧ (firstO c b l = b ∨ firstO c b l ∈ l) ∧ c (firstO c b l) ≤ c b ∧ ∀ o ∈ l, c (firstO c b l) ≤ c o
  | [], b, hb, _ => ⟨hb, .inl rfl, Int.le_refl _, fun o ho => absurd ho (by simp)⟩
  | o :: t, b, hb, hn => by
    have ho := hn o List.mem_cons_self
    have e : firstO c b (o :: t) = firstO c (stepO c b o) t := rfl
    have hs : stepO c b o ≠ [] ∧ (stepO c b o = b ∨ stepO c b o = o) ∧ c (stepO c b o) ≤ c b ∧ c (stepO c b o) ≤ c o := by
      unfold stepO
      split
      · rename_i h
        rcases h with h | h
        · exact absurd h hb
        · exact ⟨ho, .inr rfl, by omega, Int.le_refl _⟩
      · rename_i h
        have h2 : ¬ c o < c b := fun h3 => h (.inr h3)
        exact ⟨hb, .inl rfl, Int.le_refl _, by omega⟩
    obtain ⟨h1, h2, h3, h4⟩ := firstO_least (c := c) (l := t) hs.1 fun y hy => hn y (List.mem_cons_of_mem _ hy)
    rw [e]
    refine ⟨h1, ?_, by have := hs.2.2.1; omega, fun y hy => ?_⟩
    · rcases h2 with h2 | h2
      · rw [h2]
        rcases hs.2.1 with h5 | h5
        · exact .inl h5
        · exact .inr (by rw [h5]; exact List.mem_cons_self)
      · exact .inr (List.mem_cons_of_mem _ h2)
    · rcases List.mem_cons.1 hy with rfl | hy
      · have := hs.2.2.2; omega
      · exact h4 y hy
theorem firstO_min {c : List Int → Int} {l : List (List Int)} (hl : l ≠ []) (hn : ∀ o ∈ l, o ≠ []) : firstO c [] l ∈ l ∧ ∀ o ∈ l, c (firstO c [] l) ≤ c o := by
  cases l with
  | nil => exact absurd rfl hl
  | cons o t =>
    have ho := hn o List.mem_cons_self
    have e : firstO c [] (o :: t) = firstO c o t := by
      show firstO c (stepO c [] o) t = _
      unfold stepO; rw [if_pos (.inl rfl)]
    obtain ⟨_, h2, h3, h4⟩ := firstO_least (c := c) (l := t) ho fun y hy => hn y (List.mem_cons_of_mem _ hy)
    rw [e]
    refine ⟨?_, fun y hy => ?_⟩
    · rcases h2 with h2 | h2
      · rw [h2]; exact List.mem_cons_self
      · exact List.mem_cons_of_mem _ h2
    · rcases List.mem_cons.1 hy with rfl | hy
      · exact h3
      · exact h4 y hy
/-- no order costs less -/
theorem best_least (c : List Int → Int) {n : Nat} (hn : 0 < n) : (bestO c n n []).length = n ∧ Begun n (bestO c n n []) ∧ ∀ o, Begun n o → o.length = n → c (bestO c n n []) ≤ c o := by
  have hb : Begun n [] := ⟨List.nodup_nil, fun x hx => absurd hx (by simp)⟩
  obtain ⟨h1, h2, h3⟩ := best_all c hn n [] hb (by simp)
  obtain ⟨h4, h5⟩ := firstO_min (c := c) h2 fun o ho e => by have := (h3 o ho).1; rw [e] at this; simp at this; omega
  rw [h1]
  exact ⟨(h3 _ h4).1, (h3 _ h4).2, fun o ho hl => h5 o (by have := allO_all n (pre := []) (t := o) (by simpa using ho) hl; simpa using this)⟩
/-- there are not too many orders -/
theorem restO_len (n : Nat) (pre : List Int) : (restO n pre).length ≤ n := by
  unfold restO
  refine Nat.le_trans (List.length_filter_le _ _) ?_
  simp
theorem flatO_len {f : Int → List (List Int)} {m : Nat} : ∀ {L : List Int}, (∀ x ∈ L, (f x).length ≤ m) → (L.flatMap f).length ≤ L.length * m
  | [], _ => by simp
  | x :: t, h => by
    have := flatO_len (f := f) (L := t) fun y hy => h y (List.mem_cons_of_mem _ hy)
    have := h x List.mem_cons_self
    rw [List.flatMap_cons, List.length_append, List.length_cons, Nat.succ_mul]; omega
theorem allO_len {n : Nat} : ∀ (d : Nat) (pre : List Int), (allO n d pre).length ≤ n ^ d
  | 0, pre => by simp [allO]
  | d + 1, pre => by
    have h := flatO_len (f := fun x => allO n d (pre ++ [x])) (m := n ^ d) (L := restO n pre) fun x _ => allO_len d _
    have h2 := Nat.mul_le_mul_right (n ^ d) (restO_len n pre)
    show ((restO n pre).flatMap fun x => allO n d (pre ++ [x])).length ≤ _
    rw [Nat.pow_succ, Nat.mul_comm]; omega
theorem allO_small {n : Nat} (hn : n ≤ 5) : (allO n n []).length ≤ 3125 := by
  have h := allO_len (n := n) n []
  have : n ^ n ≤ 5 ^ 5 := Nat.le_trans (Nat.pow_le_pow_left hn n) (Nat.pow_le_pow_right (by omega) hn)
  omega
/-- the indices from k on that an order does not have -/
def restK (n : Nat) (pre : List Int) (k : Nat) : List Int := (((List.range n).drop k).map fun (i : Nat) => (i : Int)).filter fun x => !inL pre x
theorem restK_zero (n : Nat) (pre : List Int) : restK n pre 0 = restO n pre := rfl
theorem restK_end {n k : Nat} (pre : List Int) (h : n ≤ k) : restK n pre k = [] := by
  unfold restK; rw [List.drop_eq_nil_of_le (by simpa using h)]; rfl
theorem restK_step {n k : Nat} (pre : List Int) (h : k < n) : restK n pre k = if inL pre (k : Int) = true then restK n pre (k + 1) else (k : Int) :: restK n pre (k + 1) := by
  unfold restK
  rw [List.drop_eq_getElem_cons (by simpa using h), List.map_cons, List.filter_cons, List.getElem_range]
  cases inL pre (k : Int) <;> simp
end Go.Proofs.Yteckjiaaikdghaa
