/-
  Lemmas and contracts of single functions of this program, used by the proofs of its laws: what each call returns and what becomes of memory. Conditions: the hypotheses of each theorem.
-/
import Derived.Test.YtkgepklapglmdaaGrdP
namespace Go.Proofs.Ytkgepklapglmdaa
open Go.RowKit

/-- the widest first -/
def DescG (ws : List Int) (K : List Nat) : Prop := OrdG ws.length K ∧ K.Pairwise fun a b => gi ws b < gi ws a
theorem desc_unique {ws : List Int} {K K' : List Nat} (h : DescG ws K) (h' : DescG ws K') : K = K' := by
  have hp : K.Perm K' := (List.perm_ext_iff_of_nodup h.1.1 h'.1.1).2 fun a => (h.1.2 a).trans (h'.1.2 a).symm
  refine List.Perm.eq_of_pairwise (le := fun a b => gi ws b < gi ws a) (fun a b _ _ h1 h2 => absurd h1 (by omega)) h.2 h'.2 hp
/-- the widths are distinct -/
theorem wid_ne {W : Int} {ws : List Int} (h : vWid W ws = true) {i j : Nat} (hi : i < ws.length) (hj : j < ws.length) (hne : i ≠ j) : gi ws i ≠ gi ws j := by
  have h1 := (vWid_iff.1 h).2.2.2.2
  have key : ∀ i j, i < j → j < ws.length → gi ws i ≠ gi ws j := fun i j hij hj e => by
    have h2 := (wOk_rng (h1 j hj)).2.2
    have h3 : inL (ws.take j) (gi ws j) = true := by
      unfold inL
      rw [List.any_eq_true]
      refine ⟨gi ws i, ?_, by simp [e]⟩
      rw [gi_eq (by omega)]
      exact List.mem_take_iff_getElem.2 ⟨i, by omega, rfl⟩
    rw [h3] at h2; cases h2
  rcases Nat.lt_or_gt_of_ne hne with h | h
  · exact key i j h hj
  · exact (key j i h hi).symm
/-- the indices, the widest first -/
def kOrd (ws : List Int) : List Nat := (List.range ws.length).mergeSort fun a b => decide (gi ws b ≤ gi ws a)
theorem kOrd_desc {W : Int} {ws : List Int} (h : vWid W ws = true) : DescG ws (kOrd ws) := by
  have hp : (kOrd ws).Perm (List.range ws.length) := List.mergeSort_perm _ _
  have hm : ∀ i, i ∈ kOrd ws ↔ i < ws.length := fun i => hp.mem_iff.trans List.mem_range
  have hn : (kOrd ws).Nodup := hp.nodup_iff.2 List.nodup_range
  refine ⟨⟨hn, hm⟩, ?_⟩
  have hs := List.pairwise_mergeSort (le := fun a b => decide (gi ws b ≤ gi ws a)) (fun a b c h1 h2 => by simp only [decide_eq_true_eq] at *; omega) (fun a b => by simp only [Bool.or_eq_true, decide_eq_true_eq]; omega) (List.range ws.length)
  have hs2 : (kOrd ws).Pairwise fun a b => gi ws b ≤ gi ws a := hs.imp fun h => of_decide_eq_true h
  have hboth := List.Pairwise.and hs2 (List.nodup_iff_pairwise_ne.1 hn)
  refine List.Pairwise.imp_of_mem (fun {a b} ha hb hab => ?_) hboth
  have hne := wid_ne h ((hm a).1 ha) ((hm b).1 hb) hab.2
  have := hab.1
  omega
/-- wants are valid -/
def vWan (W : Int) (ws xs : List Int) : Bool := vWid W ws && decide (xs.length = ws.length) && allR 0 20 xs && decide (xs.sum ≤ 60)
theorem vWan_iff {W : Int} {ws xs : List Int} : vWan W ws xs = true ↔ vWid W ws = true ∧ xs.length = ws.length ∧ (∀ i, i < xs.length → 0 ≤ gi xs i ∧ gi xs i ≤ 20) ∧ xs.sum ≤ 60 := by
  unfold vWan
  rw [Bool.and_eq_true, Bool.and_eq_true, Bool.and_eq_true, decide_eq_true_eq, decide_eq_true_eq, allR_iff]
  constructor
  · rintro ⟨⟨⟨a, b⟩, c⟩, d⟩; exact ⟨a, b, c, d⟩
  · rintro ⟨a, b, c, d⟩; exact ⟨⟨⟨a, b⟩, c⟩, d⟩
/-- the sets -/
def gsL (W : Int) (ws xs : List Int) : List (List Int) := if vWan W ws xs = true then grdL W ws (kOrd ws) xs else []
theorem gi_nn {xs : List Int} (h : ∀ i, i < xs.length → 0 ≤ gi xs i) (i : Nat) : 0 ≤ gi xs i := by
  rcases Nat.lt_or_ge i xs.length with h1 | h1
  · exact h i h1
  · rw [show gi xs i = 0 by simp [gi, h1]]; omega
theorem gsL_len (W : Int) (ws xs : List Int) : (gsL W ws xs).length ≤ 60 := by
  unfold gsL
  split
  · rename_i h
    have h1 := vWan_iff.1 h
    have := grdL_len (W := W) (ws := ws) (K := kOrd ws) xs.sum.toNat xs
    have h2 := sumG_pos (ys := xs) fun i hi => (h1.2.2.1 i hi).1
    unfold grdL
    omega
  · simp
end Go.Proofs.Ytkgepklapglmdaa
