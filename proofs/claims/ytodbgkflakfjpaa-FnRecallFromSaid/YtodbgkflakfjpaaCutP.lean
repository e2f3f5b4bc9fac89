/-
  Lemmas and contracts of single functions of this program, used by the proofs of its laws: what each call returns and what becomes of memory. Conditions: the hypotheses of each theorem.
-/
import Derived.Test.YtodbgkflakfjpaaReelN
namespace Go.Proofs.Ytodbgkflakfjpaa
open Go.RowKit

/-- a defect, as the reel of the part alone has it -/
def cutD (p d : List Int) : List Int := [max (gi d 0) (gi p 0) - gi p 0, min (gi d 1) (gi p 1) - gi p 0, max (gi d 2) (gi p 2) - gi p 2, min (gi d 3) (gi p 3) - gi p 2, gi d 4]
def cutDs (ds : List (List Int)) (p : List Int) : List (List Int) := (ds.filter fun d => mT d p).map (cutD p)
theorem cutDs_succ {ds : List (List Int)} {p : List Int} {k : Nat} (h : k < ds.length) : cutDs (ds.take (k + 1)) p = if mT (gr ds k) p = true then cutDs (ds.take k) p ++ [cutD p (gr ds k)] else cutDs (ds.take k) p := by
  unfold cutDs
  rw [take_gr h, List.filter_append, List.map_append]
  by_cases e : mT (gr ds k) p = true
  · rw [if_pos e]; simp [e]
  · rw [if_neg e]; simp [e]
theorem cutD_ok {W L : Int} {p d : List Int} (hp : pv p W L = true) (hd : dOk W L d = true) (hm : mT d p = true) : dOk (gi p 1 - gi p 0) (gi p 3 - gi p 2) (cutD p d) = true ∧ mT (cutD p d) [0, gi p 1 - gi p 0, 0, gi p 3 - gi p 2] = true := by
  have h1 := insB_true hp
  unfold dOk at hd
  simp only [Bool.and_eq_true, decide_eq_true_eq] at hd
  have h2 := insB_true hd.1
  have h3 := meetB_iff.1 hm
  constructor
  · unfold dOk
    simp only [Bool.and_eq_true, decide_eq_true_eq]
    refine ⟨insB_iff.2 ?_, hd.2⟩
    simp only [cutD, gi, List.getD_cons_zero, List.getD_cons_succ] at *
    omega
  · refine meetB_iff.2 ?_
    simp only [cutD, gi, List.getD_cons_zero, List.getD_cons_succ] at *
    omega
theorem cut_valid {W L : Int} {ds : List (List Int)} {p : List Int} (hr : vReel W L ds = true) (hp : pv p W L = true) : vReel (gi p 1 - gi p 0) (gi p 3 - gi p 2) (cutDs ds p) = true := by
  have h := vReel_iff.1 hr
  have h1 := insB_true hp
  have hl : (cutDs ds p).length ≤ ds.length := by unfold cutDs; rw [List.length_map]; exact List.length_filter_le _ _
  refine vReel_iff.2 ⟨by omega, by omega, by omega, by omega, by omega, fun x hx => ?_⟩
  unfold cutDs at hx
  obtain ⟨d, hd, rfl⟩ := List.mem_map.1 hx
  obtain ⟨hd1, hd2⟩ := List.mem_filter.1 hd
  exact (cutD_ok hp (h.2.2.2.2.2 d hd1) hd2).1
theorem cut_worst {W L : Int} {p : List Int} (hp : pv p W L = true) {ds : List (List Int)} (hd : ∀ d ∈ ds, dOk W L d = true) : worstL (cutDs ds p) [0, gi p 1 - gi p 0, 0, gi p 3 - gi p 2] = worstL ds p := by
  have key : ∀ (ds : List (List Int)) (m : Int), (∀ d ∈ ds, dOk W L d = true) → (cutDs ds p).foldl (fun m d => if mT d [0, gi p 1 - gi p 0, 0, gi p 3 - gi p 2] = true then max m (gi d 4) else m) m = ds.foldl (fun m d => if mT d p = true then max m (gi d 4) else m) m := by
    intro ds
    induction ds with
    | nil => intro m _; rfl
    | cons d t ih =>
      intro m h
      have ht : ∀ x ∈ t, dOk W L x = true := fun x hx => h x (List.mem_cons_of_mem _ hx)
      by_cases e : mT d p = true
      · have h1 := cutD_ok hp (h d List.mem_cons_self) e
        have e1 : cutDs (d :: t) p = cutD p d :: cutDs t p := by unfold cutDs; simp [e]
        rw [e1, List.foldl_cons, List.foldl_cons, if_pos h1.2, if_pos e]
        exact ih _ ht
      · have e1 : cutDs (d :: t) p = cutDs t p := by unfold cutDs; simp [e]
        rw [e1, List.foldl_cons, if_neg e]
        exact ih _ ht
  exact key ds 0 hd
end Go.Proofs.Ytodbgkflakfjpaa
