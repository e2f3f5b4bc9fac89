/-
  Lemmas and contracts of single functions of this program, used by the proofs of its laws: what each call returns and what becomes of memory. Conditions: the hypotheses of each theorem.
-/
import Derived.Test.YtlabekemifccaaaDoorTxtP
import Derived.Test.YtlabekemifccaaaDoorTxtD
namespace Go.Proofs.YtlabekemifccaaaDoor
open Go.RowKit

/-! texts of events: written and read back -/
theorem join_split (c : UInt8) : ∀ (l cur h : List UInt8) (t : List (List UInt8)), splitC c cur l = h :: t → h ++ t.flatMap (fun x => c :: x) = cur ++ l
  | [], cur, h, t, e => by
    rw [splitC] at e
    injection e with e1 e2
    subst e1 e2; simp
  | b :: r, cur, h, t, e => by
    rw [splitC] at e
    split at e
    · rename_i hb
      subst hb
      injection e with e1 e2
      subst e1
      cases t with
      | nil => exact absurd e2 (splitC_ne _ _ _)
      | cons x y =>
        have := join_split b r [] x y e2
        simp only [List.flatMap_cons, List.nil_append] at this ⊢
        rw [List.cons_append, this]
    · have := join_split c r (cur ++ [b]) h t e
      rw [this]; simp
theorem split_join (c : UInt8) : ∀ (xs : List (List UInt8)) (h cur : List UInt8), (∀ b ∈ h, b ≠ c) → (∀ x ∈ xs, ∀ b ∈ x, b ≠ c) → splitC c cur (h ++ xs.flatMap (fun x => c :: x)) = (cur ++ h) :: xs
  | [], [], cur, _, _ => by simp [splitC]
  | x :: t, [], cur, _, hx => by
    simp only [List.nil_append, List.flatMap_cons, List.cons_append, List.append_nil]
    rw [splitC, if_pos rfl, split_join c t x [] (hx x List.mem_cons_self) fun y hy => hx y (List.mem_cons_of_mem _ hy)]
    rfl
  | xs, b :: h, cur, hh, hx => by
    rw [List.cons_append, splitC, if_neg (hh b List.mem_cons_self), split_join c xs h (cur ++ [b]) (fun y hy => hh y (List.mem_cons_of_mem _ hy)) hx]
    simp
theorem evN_evS {k : Int} {ns : List Int} (h0 : 0 ≤ k) (h3 : k ≤ 3) (hl : ns.length = (idxK k).length) : evN (evS k ns ns.length) = ns ∧ gi (evS k ns ns.length) 0 = k := by
  obtain rfl | rfl | rfl | rfl : k = 0 ∨ k = 1 ∨ k = 2 ∨ k = 3 := by omega
  · match ns, hl with
    | [a, b, c], _ => exact ⟨rfl, rfl⟩
  · match ns, hl with
    | [a, b, c, d, e, f], _ => exact ⟨rfl, rfl⟩
  · match ns, hl with
    | [a, b, c, d, e], _ => exact ⟨rfl, rfl⟩
  · match ns, hl with
    | [a, b], _ => exact ⟨rfl, rfl⟩
theorem nmL_dec {x : List UInt8} (h : 0 ≤ nmL x) : Lib.decDigits (nmL x).toNat = x := by
  have hr := rd_nm x
  by_cases hc : rdN 0 x < 0 ∨ x = [] ∨ x ≠ Lib.decDigits (rdN 0 x).toNat
  · rw [if_pos hc] at hr; omega
  · rw [if_neg hc] at hr
    rw [hr]
    exact (Classical.byContradiction fun e => hc (.inr (.inr fun e2 => e e2.symm)))
theorem dec_nmL {n : Nat} (h : n ≤ 999999) : nmL (Lib.decDigits n) = n := by
  obtain ⟨a1, a2, a3, a4, a5⟩ := dec_ok n
  unfold nmL
  rw [if_pos ⟨a2, (dec_len (n := n) (by omega)).2, a3, a1⟩, a4]
theorem numsT_map (xs : List (List UInt8)) (h : badN xs = false) : numsT (xs.map nmL) = xs.flatMap (fun x => 32 :: x) := by
  unfold badN at h
  rw [List.any_eq_false] at h
  unfold numsT
  rw [List.flatMap_map]
  rw [List.flatMap_def, List.flatMap_def]
  congr 1
  refine List.map_congr_left fun x hx => ?_
  have := h x hx
  rw [nmL_dec (by simpa using this)]
theorem bad_rng {xs : List (List UInt8)} (h : badN xs = false) : allR 0 999999 (xs.map nmL) = true := by
  unfold badN at h
  rw [List.any_eq_false] at h
  rw [allR_iff]
  intro i hi
  rw [List.length_map] at hi
  have e : gi (xs.map nmL) i = nmL xs[i] := by rw [gi_eq (by simpa using hi)]; simp
  rw [e]
  have h1 := h xs[i] (List.getElem_mem hi)
  have h2 := nmL_rng xs[i]
  simp at h1
  omega
/-- what is read is written back -/
theorem fmt_par {l : List UInt8} {ev : List Int} (h : parE l = some ev) : fmtE ev = l := by
  unfold parE at h
  cases hs : splitC 32 [] l with
  | nil => exact absurd hs (splitC_ne _ _ _)
  | cons w0 xs =>
    rw [hs] at h
    simp only at h
    split at h
    · cases h
    · rename_i hb
      have hb2 : badN xs = false := by simpa using hb
      split at h
      · cases h
      · rename_i k hk
        injection h with h
        obtain ⟨a, b, c, d⟩ := kndT_some hk
        have e := evN_evS (ns := xs.map nmL) a b (by rw [List.length_map]; exact c)
        rw [← h]
        unfold fmtE
        rw [e.1, e.2, if_pos (bad_rng hb2), numsT_map xs hb2, ← d]
        have := join_split 32 l [] w0 xs hs
        rw [this]; rfl
theorem wrd_32 (k : Int) : ∀ b ∈ wrd k, b ≠ 32 := by
  rcases kind_cases k with rfl | rfl | rfl | rfl | ⟨h0, h1, h2, h3⟩
  · decide
  · decide
  · decide
  · decide
  · unfold wrd; rw [if_neg h0, if_neg h1, if_neg h2, if_neg h3]; simp
theorem dec_32 (n : Nat) : ∀ b ∈ Lib.decDigits n, b ≠ 32 := fun b hb e => by
  have h := (dec_ok n).1
  rw [List.all_eq_true] at h
  have h2 := dgt_iff.1 (h b hb)
  subst e
  have : (32 : UInt8).toNat = 32 := rfl
  omega
theorem numsT_eq (ns : List Int) : numsT ns = (ns.map fun x => Lib.decDigits x.toNat).flatMap (fun x => 32 :: x) := by unfold numsT; rw [List.flatMap_map]
theorem kndT_wrd {k : Int} (h0 : 0 ≤ k) (h3 : k ≤ 3) : kndT (wrd k) (idxK k).length = some k := by
  obtain rfl | rfl | rfl | rfl : k = 0 ∨ k = 1 ∨ k = 2 ∨ k = 3 := by omega
  · rfl
  · rfl
  · rfl
  · rfl
/-- what is written is read back -/
theorem par_fmt {ev : List Int} (h : fmtE ev ≠ []) : ∃ ev', parE (fmtE ev) = some ev' ∧ fmtE ev' = fmtE ev ∧ gi ev' 0 = gi ev 0 ∧ evN ev' = evN ev ∧ ev' = evS (gi ev 0) (evN ev) (evN ev).length ∧ 0 ≤ gi ev 0 ∧ gi ev 0 ≤ 3 := by
  have hall : allR 0 999999 (evN ev) = true := by
    unfold fmtE at h
    by_cases e : allR 0 999999 (evN ev) = true
    · exact e
    · rw [if_neg e] at h; exact absurd rfl h
  have hf : fmtE ev = wrd (gi ev 0) ++ numsT (evN ev) := by unfold fmtE; rw [if_pos hall]
  have hk : 0 ≤ gi ev 0 ∧ gi ev 0 ≤ 3 := by
    rcases kind_cases (gi ev 0) with e | e | e | e | ⟨h0, h1, h2, h3⟩
    · omega
    · omega
    · omega
    · omega
    · exfalso
      apply h
      rw [hf]
      unfold wrd evN idxK
      rw [if_neg h0, if_neg h1, if_neg h2, if_neg h3, if_neg h0, if_neg h1, if_neg h2, if_neg h3]; rfl
  obtain ⟨h0, h3⟩ := hk
  have hl := evN_len ev
  have e1 := evN_evS (ns := evN ev) h0 h3 hl
  refine ⟨_, ?_, ?_, e1.2, e1.1, rfl, h0, h3⟩
  · rw [hf]
    unfold parE
    rw [numsT_eq, split_join 32 _ _ [] (wrd_32 _) (fun x hx => by
      obtain ⟨y, _, rfl⟩ := List.mem_map.1 hx
      exact dec_32 _), List.nil_append]
    have hm : ((evN ev).map fun x => Lib.decDigits x.toNat).map nmL = evN ev := by
      rw [List.map_map]
      apply List.ext_getElem
      · simp
      · intro i h1 h2
        simp only [List.getElem_map, Function.comp]
        have := (allR_iff.1 hall) i h2
        rw [gi_eq h2] at this
        rw [dec_nmL (by omega)]; omega
    have hb : badN ((evN ev).map fun x => Lib.decDigits x.toNat) = false := by
      unfold badN
      rw [List.any_eq_false]
      intro x hx
      obtain ⟨y, hy, rfl⟩ := List.mem_map.1 hx
      obtain ⟨i, hi, rfl⟩ := List.mem_iff_getElem.1 hy
      have := (allR_iff.1 hall) i hi
      rw [gi_eq hi] at this
      rw [dec_nmL (by omega)]; simp; omega
    simp only
    rw [if_neg (by rw [hb]; simp), List.length_map, hl, kndT_wrd h0 h3]
    simp only
    rw [hm, hl]
  · unfold fmtE
    rw [e1.1, e1.2]
end Go.Proofs.YtlabekemifccaaaDoor
