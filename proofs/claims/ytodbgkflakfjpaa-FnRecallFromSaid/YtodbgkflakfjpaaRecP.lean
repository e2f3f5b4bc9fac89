/-
  Lemmas and contracts of single functions of this program, used by the proofs of its laws: what each call returns and what becomes of memory. Conditions: the hypotheses of each theorem.
-/
import Derived.Test.YtodbgkflakfjpaaRecB
namespace Go.Proofs.Ytodbgkflakfjpaa
open Go.RowKit

/-- x is reached from i by steps to bad ones -/
def Rch (B : Nat → Bool) (N : Nat → Nat → Bool) (m i x : Nat) : Prop := ∀ S : Nat → Prop, S i → (∀ a n, S a → n < m → N a n = true → B n = true → S n) → S x
theorem Rch.base (B : Nat → Bool) (N : Nat → Nat → Bool) (m i : Nat) : Rch B N m i i := fun _ h _ => h
theorem Rch.step {B : Nat → Bool} {N : Nat → Nat → Bool} {m i a n : Nat} (h : Rch B N m i a) (hn : n < m) (h1 : N a n = true) (h2 : B n = true) : Rch B N m i n := fun S h0 hs => hs a n (h S h0 hs) hn h1 h2
theorem Rch.trans {B : Nat → Bool} {N : Nat → Nat → Bool} {m x y z : Nat} (h : Rch B N m x y) (k : Rch B N m y z) : Rch B N m x z := k (fun q => Rch B N m x q) h fun _ _ ha hn h1 h2 => ha.step hn h1 h2
theorem Rch.good {B : Nat → Bool} {N : Nat → Nat → Bool} {m i x : Nat} (h : Rch B N m i x) : x = i ∨ (x < m ∧ B x = true) := h (fun q => q = i ∨ (q < m ∧ B q = true)) (.inl rfl) fun _ _ _ hn _ h2 => .inr ⟨hn, h2⟩
theorem Rch.back {B : Nat → Bool} {N : Nat → Nat → Bool} {m i x : Nat} (h : Rch B N m i x) (hN : ∀ a b, a < m → b < m → N a b = N b a) (hi : i < m) (hB : B i = true) : Rch B N m x i := by
  have := h (fun q => (q < m ∧ B q = true) ∧ Rch B N m q i) ⟨⟨hi, hB⟩, Rch.base _ _ _ _⟩ fun a n ha hn h1 h2 => ⟨⟨hn, h2⟩, Rch.trans ((Rch.base B N m n).step ha.1.1 (by rw [hN n a hn ha.1.1]; exact h1) ha.1.2) ha.2⟩
  exact this.2
theorem Rch.mono {B C : Nat → Bool} {N : Nat → Nat → Bool} {m i x : Nat} (h : Rch B N m i x) (hB : ∀ n, B n = true → C n = true) : Rch C N m i x := h (fun q => Rch C N m i q) (Rch.base _ _ _ _) fun _ _ ha hn h1 h2 => ha.step hn h1 (hB _ h2)
theorem Rch.none {B : Nat → Bool} {N : Nat → Nat → Bool} {m i x : Nat} (h : Rch B N m i x) (hB : ∀ n, n < m → B n = false) : x = i := by
  rcases h.good with e | ⟨h1, h2⟩
  · exact e
  · rw [hB x h1] at h2; cases h2
theorem inn_mem {P : Nat → Bool} {xs : List Int} {x : Int} : ∀ {n : Nat}, x ∈ inn P xs n ↔ x ∈ xs ∨ ∃ j : Nat, j < n ∧ P j = true ∧ x = (j : Int)
  | 0 => by simp [inn]
  | n + 1 => by
    have ih := inn_mem (P := P) (xs := xs) (x := x) (n := n)
    rw [inn]
    split
    · rename_i hc
      rw [Bool.and_eq_true] at hc
      rw [List.mem_append, List.mem_singleton, ih]
      constructor
      · rintro ((h | ⟨j, h1, h2, h3⟩) | h)
        · exact .inl h
        · exact .inr ⟨j, by omega, h2, h3⟩
        · exact .inr ⟨n, by omega, hc.1, h⟩
      · rintro (h | ⟨j, h1, h2, h3⟩)
        · exact .inl (.inl h)
        · by_cases hj : j = n
          · subst hj; exact .inr h3
          · exact .inl (.inr ⟨j, by omega, h2, h3⟩)
    · rename_i hc
      constructor
      · intro h
        rcases ih.1 h with h | ⟨j, h1, h2, h3⟩
        · exact .inl h
        · exact .inr ⟨j, by omega, h2, h3⟩
      · rintro (h | ⟨j, h1, h2, h3⟩)
        · exact ih.2 (.inl h)
        · by_cases hj : j = n
          · subst hj
            rw [h2, Bool.true_and] at hc
            rw [h3]
            cases hh : inL (inn P xs j) (j : Int)
            · rw [hh] at hc; exact absurd rfl hc
            · exact inL_mem.1 hh
          · exact ih.2 (.inr ⟨j, by omega, h2, h3⟩)
theorem gi_mem {xs : List Int} {k : Nat} (h : k < xs.length) : gi xs k ∈ xs := by rw [gi_eq h]; exact List.getElem_mem h
theorem mem_gi {xs : List Int} {x : Int} (h : x ∈ xs) : ∃ k, k < xs.length ∧ gi xs k = x := by
  obtain ⟨k, hk, e⟩ := List.mem_iff_getElem.1 h
  exact ⟨k, hk, by rw [gi_eq hk]; exact e⟩
theorem stp_sub {B : Nat → Bool} {N : Nat → Nat → Bool} {m i : Nat} : ∀ k, ∀ x ∈ stp B N m (i : Int) k, Rch B N m i x.toNat
  | 0, x, h => by
    rw [stp, List.mem_singleton] at h
    rw [h, Int.toNat_natCast]; exact Rch.base _ _ _ _
  | k + 1, x, h => by
    rw [stp] at h
    split at h
    · rename_i hk
      rcases inn_mem.1 h with h | ⟨j, h1, h2, rfl⟩
      · exact stp_sub k x h
      · rw [Bool.and_eq_true] at h2
        rw [Int.toNat_natCast]
        exact (stp_sub k _ (gi_mem hk)).step h1 h2.1 h2.2
    · exact stp_sub k x h
theorem stp_has {B : Nat → Bool} {N : Nat → Nat → Bool} {m : Nat} {i : Int} : ∀ k, i ∈ stp B N m i k
  | 0 => by rw [stp]; exact List.mem_singleton.2 rfl
  | k + 1 => by
    rw [stp]
    split
    · exact inn_mem.2 (.inl (stp_has k))
    · exact stp_has k
theorem stp_closed {B : Nat → Bool} {N : Nat → Nat → Bool} {m : Nat} {i : Int} : ∀ k j, j < k → j < (stp B N m i k).length → ∀ n : Nat, n < m → N (gi (stp B N m i k) j).toNat n = true → B n = true → (n : Int) ∈ stp B N m i k
  | 0, j, h, _, _, _, _, _ => absurd h (by omega)
  | k + 1, j, h, hl, n, hn, h1, h2 => by
    rw [stp] at hl h1 ⊢
    split at hl
    · rename_i hk
      rw [if_pos hk] at h1 ⊢
      have hjl : j < (stp B N m i k).length := by omega
      rw [(inn_gi hjl m).2] at h1
      by_cases hj : j = k
      · subst hj
        exact inn_mem.2 (.inr ⟨n, hn, by rw [h1, h2]; rfl, rfl⟩)
      · exact inn_mem.2 (.inl (stp_closed k j (by omega) hjl n hn h1 h2))
    · rename_i hk
      rw [if_neg hk] at h1 ⊢
      exact stp_closed k j (by omega) hl n hn h1 h2
theorem stp_rch {B : Nat → Bool} {N : Nat → Nat → Bool} {m i x : Nat} (hi : i < m) : inL (stp B N m (i : Int) m) (x : Int) = true ↔ Rch B N m i x := by
  rw [inL_mem]
  constructor
  · intro h
    have := stp_sub m _ h
    rwa [Int.toNat_natCast] at this
  · intro h
    refine h (fun q => (q : Int) ∈ stp B N m (i : Int) m) (stp_has m) fun a n ha hn h1 h2 => ?_
    have hl := (stp_fair (B := B) (N := N) (m := m) (i := (i : Int)) (by omega) (by omega) m).len
    obtain ⟨j, hj, e⟩ := mem_gi ha
    exact stp_closed m j (by omega) hj n hn (by rw [e, Int.toNat_natCast]; exact h1) h2
/-- which ones are bad -/
def bdF (ds ps : List (List Int)) (m : Int) (n : Nat) : Bool := decide (m < worstL ds (gr ps n))
theorem rc_mem {W L : Int} {ds ps : List (List Int)} {i m y : Int} : y ∈ rcL W L ds ps i m ↔ vCuts W L ds ps = true ∧ 0 ≤ i ∧ i < ps.length ∧ ∃ x : Nat, x < ps.length ∧ Rch (bdF ds ps m) (nxt ps) ps.length i.toNat x ∧ y = (x : Int) := by
  unfold rcL
  split
  · rename_i h
    obtain ⟨hv, h0, h1⟩ := h
    rw [selL_mem]
    have key : ∀ x : Nat, inL (stp (bdF ds ps m) (nxt ps) ps.length i ps.length) (x : Int) = true ↔ Rch (bdF ds ps m) (nxt ps) ps.length i.toNat x := by
      intro x
      have := stp_rch (B := bdF ds ps m) (N := nxt ps) (m := ps.length) (i := i.toNat) (x := x) (by omega)
      rwa [Int.toNat_of_nonneg h0] at this
    constructor
    · rintro ⟨x, h3, h4, h5⟩
      exact ⟨hv, h0, h1, x, h3, (key x).1 h4, h5⟩
    · rintro ⟨_, _, _, x, h3, h4, h5⟩
      exact ⟨x, h3, (key x).2 h4, h5⟩
  · rename_i h
    constructor
    · intro hy; cases hy
    · rintro ⟨h1, h2, h3, _⟩
      exact absurd ⟨h1, h2, h3⟩ h
theorem neighB_comm (a b : List Int) : neighB a b = neighB b a := by
  rw [Bool.eq_iff_iff]
  unfold neighB
  simp only [Bool.or_eq_true, Bool.and_eq_true, decide_eq_true_eq]
  omega
theorem nxt_comm (ps : List (List Int)) (a b : Nat) : nxt ps a b = nxt ps b a := neighB_comm _ _
theorem rc_yes {W L : Int} {ds ps : List (List Int)} {i m : Int} (h : (rcL W L ds ps i m).length ≠ 0) : vCuts W L ds ps = true ∧ 0 ≤ i ∧ i < ps.length := by
  apply Classical.byContradiction
  intro hn
  unfold rcL at h
  rw [if_neg hn] at h
  exact h rfl
theorem br_mem {W L : Int} {ds ps : List (List Int)} {m : Int} {x : Nat} (hv : vCuts W L ds ps = true) (hx : x < ps.length) : inL (brL W L ds ps m) (x : Int) = bdF ds ps m x := by
  rw [Bool.eq_iff_iff, inL_mem]
  unfold brL
  rw [if_pos hv, selL_mem]
  constructor
  · rintro ⟨j, _, h, e⟩
    have : x = j := by omega
    subst this; exact h
  · intro h
    exact ⟨x, hx, h, rfl⟩
/-- the law's first half: all but the first one are bad -/
theorem rc_bad {W L : Int} {ds ps : List (List Int)} {i m y : Int} (h : y ∈ rcL W L ds ps i m) (hne : y ≠ i) : inL (brL W L ds ps m) y = true := by
  obtain ⟨hv, h0, h1, x, hx, hr, rfl⟩ := rc_mem.1 h
  rw [br_mem hv hx]
  rcases hr.good with e | ⟨_, h2⟩
  · exact absurd (by omega) hne
  · exact h2
theorem rc_has {W L : Int} {ds ps : List (List Int)} {i m : Int} (h : (rcL W L ds ps i m).length ≠ 0) : inL (rcL W L ds ps i m) i = true := by
  obtain ⟨hv, h0, h1⟩ := rc_yes h
  exact inL_mem.2 (rc_mem.2 ⟨hv, h0, h1, i.toNat, by omega, Rch.base _ _ _ _, by omega⟩)
theorem rc_same {W L : Int} {ds ps : List (List Int)} {i m y : Int} (hi : inL (brL W L ds ps m) i = true) (h : y ∈ rcL W L ds ps i m) : rcL W L ds ps y m = rcL W L ds ps i m := by
  obtain ⟨hv, h0, h1, x, hx, hr, rfl⟩ := rc_mem.1 h
  obtain ⟨j, rfl⟩ : ∃ j : Nat, i = (j : Int) := ⟨i.toNat, by omega⟩
  rw [br_mem hv (by omega)] at hi
  rw [Int.toNat_natCast] at hr
  have hb := hr.back (fun a b _ _ => nxt_comm ps a b) (by omega) hi
  unfold rcL
  rw [if_pos ⟨hv, by omega, by omega⟩, if_pos ⟨hv, by omega, by omega⟩]
  refine selL_congr fun q _ => ?_
  rw [Bool.eq_iff_iff]
  show inL (stp (bdF ds ps m) (nxt ps) ps.length (x : Int) ps.length) (q : Int) = true ↔ inL (stp (bdF ds ps m) (nxt ps) ps.length (j : Int) ps.length) (q : Int) = true
  rw [stp_rch hx, stp_rch (by omega)]
  exact ⟨fun h => hr.trans h, fun h => hb.trans h⟩
/-- strictly ascending -/
def ascL (xs : List Int) : Bool := (List.range (xs.length - 1)).all fun k => decide (gi xs k < gi xs (k + 1))
theorem asc_of {xs : List Int} (h : xs.Pairwise (· < ·)) : ascL xs = true := by
  unfold ascL
  rw [List.all_eq_true]
  intro k hk
  have hk' := List.mem_range.1 hk
  rw [decide_eq_true_eq, gi_eq (by omega), gi_eq (by omega)]
  exact List.pairwise_iff_getElem.1 h _ _ _ _ (by omega)
theorem sel_asc (P : Nat → Bool) (n : Nat) : ascL (selL P n) = true := by
  refine asc_of ?_
  unfold selL
  rw [List.pairwise_map]
  exact (List.Pairwise.filter _ List.pairwise_lt_range).imp fun {a b} hab => by omega
theorem rc_asc (W L : Int) (ds ps : List (List Int)) (i m : Int) : ascL (rcL W L ds ps i m) = true := by
  unfold rcL
  split
  · exact sel_asc _ _
  · rfl
/-- stricter recalls recall more -/
theorem rc_more {W L : Int} {ds ps : List (List Int)} {i m m' : Int} (h : m' ≤ m) : allInL (rcL W L ds ps i m) (rcL W L ds ps i m') = true := by
  unfold allInL
  rw [List.all_eq_true]
  intro y hy
  obtain ⟨hv, h0, h1, x, hx, hr, rfl⟩ := rc_mem.1 hy
  refine inL_mem.2 (rc_mem.2 ⟨hv, h0, h1, x, hx, hr.mono fun n hn => ?_, rfl⟩)
  unfold bdF at hn ⊢
  rw [decide_eq_true_eq] at hn ⊢
  omega
theorem worst_le9 {W L : Int} {ds : List (List Int)} (hd : ∀ d ∈ ds, dOk W L d = true) (p : List Int) : worstL ds p ≤ 9 := by
  have key : ∀ (ds : List (List Int)) (m : Int), (∀ d ∈ ds, dOk W L d = true) → m ≤ 9 → ds.foldl (fun m d => if mT d p = true then max m (gi d 4) else m) m ≤ 9 := by
    intro ds
    induction ds with
    | nil => intro m _ h; exact h
    | cons d t ih =>
      intro m h hm
      have ht : ∀ x ∈ t, dOk W L x = true := fun x hx => h x (List.mem_cons_of_mem _ hx)
      have h1 := h d List.mem_cons_self
      unfold dOk at h1
      simp only [Bool.and_eq_true, decide_eq_true_eq] at h1
      rw [List.foldl_cons]
      refine ih _ ht ?_
      split <;> omega
  exact key ds 0 hd (by omega)
theorem rc_nine {W L : Int} {ds ps : List (List Int)} {i m : Int} (h : (rcL W L ds ps i m).length ≠ 0) : rcL W L ds ps i 9 = [i] := by
  obtain ⟨hv, h0, h1⟩ := rc_yes h
  have hd := (vReel_iff.1 (vCuts_iff.1 hv).1).2.2.2.2.2
  obtain ⟨j, rfl⟩ : ∃ j : Nat, i = (j : Int) := ⟨i.toNat, by omega⟩
  have hj : j < ps.length := by omega
  unfold rcL
  rw [if_pos ⟨hv, h0, h1⟩]
  have e : selL (fun n => inL (stp (fun n => decide (9 < worstL ds (gr ps n))) (nxt ps) ps.length (j : Int) ps.length) (n : Int)) ps.length = selL (fun n => decide (n = j)) ps.length := by
    refine selL_congr fun q _ => ?_
    rw [Bool.eq_iff_iff]
    show inL (stp (bdF ds ps 9) (nxt ps) ps.length (j : Int) ps.length) (q : Int) = true ↔ _
    rw [stp_rch hj, decide_eq_true_eq]
    constructor
    · intro h
      exact h.none fun n _ => decide_eq_false (by have := worst_le9 hd (gr ps n); omega)
    · rintro rfl; exact Rch.base _ _ _ _
  rw [e]
  have key : ∀ n, selL (fun n => decide (n = j)) n = if j < n then [(j : Int)] else [] := by
    intro n
    induction n with
    | zero => rfl
    | succ n ih =>
      rw [selL_succ, ih]
      by_cases h1 : n = j
      · subst h1; simp
      · rw [if_neg (by simpa using h1)]
        by_cases h2 : j < n
        · rw [if_pos h2, if_pos (by omega)]
        · rw [if_neg h2, if_neg (by omega)]
  rw [key, if_pos hj]
end Go.Proofs.Ytodbgkflakfjpaa
