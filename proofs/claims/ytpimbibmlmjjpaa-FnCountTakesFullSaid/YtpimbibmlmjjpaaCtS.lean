/-
  Lemmas and contracts of single functions of this program, used by the proofs of its laws: what each call returns and what becomes of memory. Conditions: the hypotheses of each theorem.
-/
import Derived.Test.YtpimbibmlmjjpaaPileCt
import Derived.Test.YtpimbibmlmjjpaaPileJ
namespace Go.Proofs.Ytpimbibmlmjjpaa
open Go.RowKit

def cntStep (q : List (List Int)) (n : Int) (l : Int) : Int := if freeB q l = true then wrap64 (n + cnt (withoutL q l)) else n
theorem foldl_take {α : Type} (f : α → Int → α) (b : α) {L : List Int} {k : Nat} (h : k < L.length) : (L.take (k + 1)).foldl f b = f ((L.take k).foldl f b) (gi L k) := by
  rw [take_gi h, List.foldl_append]; rfl
theorem plc_lt {L : List Int} {x : Int} (h : x ∈ L) : ∃ i : Nat, plc L x = i ∧ i < L.length := by
  obtain ⟨i, hi, e⟩ := mem_gi h
  have h0 : 0 ≤ plc L x := plcFrom_some x L 0 i hi e
  obtain ⟨j, h1, h2, _⟩ := plc_spec h0
  exact ⟨j, h1, h2⟩

set_option maxRecDepth 100000 in
set_option maxHeartbeats 1000000 in
theorem countTakes_any {p : List (List Int)} (hv : Uniq p) (hn : (labelsL p).Nodup) (ht : tot p ≤ 1048576) (hpl : p.length ≤ 1048576) (f : Nat) : ∀ (U : List Int) (lo hi : Nat) (v : Value) (w : World), (labelsL (less p U)).length ≤ f → IRows w lo hi v (less p U) → hi ≤ w.heap.size →
    Calls Try.prog 53 #[v] w fun e w' => e = .returned (.int .i64 (cnt (less p U))) ∧ Below w.heap.size w w' := by
  induction f with
  | zero =>
    intro U lo hi v w hf h hhi
    have hs := less_shape p U
    have htq : tot (less p U) ≤ 1048576 := by rw [shape_tot hs]; exact ht
    have hL : labelsL (less p U) = [] := List.eq_nil_of_length_eq_zero (by omega)
    have Hc := Lib.hid (show cnt (less p U) = 1 by unfold cnt; rw [hL]; rfl)
    clear hf hs
    go_enter Try.func53, Try.ntmps53
    go_wp2_with (go_at_call 52; refine (labels_any _ _ _ _ _ h hhi htq).mono ?_; rw [hL]; rintro e w1 ⟨v1, rfl, ho1, hb1⟩; obtain ⟨A1, c1, rfl, hc1, hm1⟩ := ho1.form)
    go_ret
    exact ⟨ret_int Hc.out.symm, hb1⟩
  | succ f ih =>
    intro U lo hi v w hf h hhi
    have hs := less_shape p U
    have htq : tot (less p U) ≤ 1048576 := by rw [shape_tot hs]; exact ht
    have hplq : (less p U).length ≤ 1048576 := by rw [hs.1]; exact hpl
    by_cases hL : labelsL (less p U) = []
    · have Hc := Lib.hid (show cnt (less p U) = 1 by unfold cnt; rw [hL]; rfl)
      clear hf hs
      go_enter Try.func53, Try.ntmps53
      go_wp2_with (go_at_call 52; refine (labels_any _ _ _ _ _ h hhi htq).mono ?_; rw [hL]; rintro e w1 ⟨v1, rfl, ho1, hb1⟩; obtain ⟨A1, c1, rfl, hc1, hm1⟩ := ho1.form)
      go_ret
      exact ⟨ret_int Hc.out.symm, hb1⟩
    · have hcn := cnt_less hv hn U
      rw [if_neg hL] at hcn
      have Hc := Lib.hid (show cnt (less p U) = (labelsL (less p U)).foldl (cntStep (less p U)) 0 from hcn)
      have hlen0 : 0 < (labelsL (less p U)).length := List.length_pos_iff.2 hL
      have hlen1 := labelsL_len (less p U)
      have Hmem := Lib.hid (fun (k : Nat) (hk : k < (labelsL (less p U)).length) => show ∃ r i : Nat, r < p.length ∧ i < (gr p r).length ∧ cell p r i = gi (labelsL (less p U)) k ∧ 0 < cell p r i ∧ cell p r i ∉ U from by
        have := less_label.1 (gi_mem hk)
        obtain ⟨r, i, hr, hi, he, hp⟩ := mem_labels.1 this.1
        exact ⟨r, i, hr, hi, he, by omega, by rw [he]; exact this.2⟩)
      obtain ⟨L, hLe⟩ : ∃ L, L = labelsL (less p U) := ⟨_, rfl⟩
      rw [← hLe] at Hc hlen0 hlen1 Hmem hf
      have HLe := Lib.hid hLe
      have hL0 : ((L.length : Int) == 0) = false := beq_f (by omega)
      clear hLe hL hcn
      obtain ⟨A, c, rfl, hcA, hmA⟩ := h.form
      go_enter Try.func53, Try.ntmps53
      go_wp2_with (go_at_call 52; refine (labels_any _ _ _ _ _ h hhi htq).mono ?_; rw [← HLe.out]; rintro e w1 ⟨v1, rfl, ho1, hb1⟩; obtain ⟨A1, c1, rfl, hc1, hm1⟩ := ho1.form; have hbs1 := hb1.size)
      clear hL0
      go_loopw [4, 5, 6, 7] (fun n i _ _ wr => ∃ (k : Nat) (N : Int), k ≤ L.length ∧ i = .int .i64 k ∧ n = .int .i64 N ∧ Below w1.heap.size w1 wr ∧ Hid (N = (L.take k).foldl (cntStep (less p U)) 0)) (fun _ i _ _ _ => L.length - (intOf i).toNat)
      case atStart => exact ⟨0, 0, by omega, rfl, rfl, Below.refl _ _, rfl⟩
      case round =>
        obtain ⟨k, N, hk, rfl, rfl, hb, HN⟩ := hrel
        have hbs := hb.size
        have hb0 := hb1.trans (hb.mono hbs1)
        by_cases hlt : k < L.length
        · obtain ⟨b, o, rfl, hbl, hbh, hcell, h64⟩ := (ho1.ints.below hb (Nat.le_refl _)).cell hlt
          obtain ⟨r, i, hr, hi, he, hp, hU⟩ := Hmem.out k hlt
          obtain ⟨e1, e2⟩ := less_fnd hv hr hi hp hU
          have hi6 : i ≤ 1048576 := by have := row_le_tot hr; omega
          have Hst := Lib.hid (foldl_take (cntStep (less p U)) 0 hlt)
          have hrq : r ≤ (less p U).length := by rw [hs.1]; omega
          have hfr : freeB (less p U) (gi L k) = decide ((coneL (less p U) r i).length = 1) := by unfold freeB; rw [← he, e1, e2]; rfl
          rw [he] at e1 e2
          obtain ⟨C, hC⟩ : ∃ C, C = coneL (less p U) r i := ⟨_, rfl⟩
          have HC := Lib.hid hC
          rw [← hC] at hfr
          clear hC
          by_cases hone : C.length = 1
          · have hf1 : freeB (less p U) (gi L k) = true := by rw [hfr, decide_eq_true hone]
            have hd : ((C.length : Int) == 1) = true := beq_t (by omega)
            rw [← he] at hf1
            have hcnt := free_count hv hn hr hi hp hU hf1
            have hwo := free_without hv hr hi hp hU hf1 (V := U ++ [cell p r i]) (by intro x; simp)
            rw [hwo] at hcnt
            have hcnt2 : (labelsL (less p (U ++ [cell p r i]))).length ≤ f := by rw [← HLe.out] at hcnt; omega
            have hff : 0 ≤ fndR (less p U) (gi L k) := by rw [e1]; omega
            have Hcs := Lib.hid (show cntStep (less p U) N (gi L k) = wrap64 (N + cnt (less p (U ++ [cell p r i]))) by rw [cntStep, ← he, if_pos hf1, hwo])
            have Hwo := Lib.hid (show withoutL (less p U) (gi L k) = less p (U ++ [cell p r i]) by rw [← he]; exact hwo)
            clear hcnt hwo hf1 hfr he hone
            go_wp2_with (first | (go_at_call 48; refine (find_any _ _ _ _ _ _ (h.below hb0 hhi)).mono ?_; rw [e1, e2]; rintro e w' ⟨rfl, rfl⟩) | (go_at_call 49; refine (cone_any _ _ _ _ _ _ _ (h.below hb0 hhi) (by omega) htq hrq hi6 hplq).mono ?_; rw [← HC.out]; rintro e w2 ⟨v2, rfl, ho2, hb2⟩; obtain ⟨A2, c2, rfl, hc2, hm2⟩ := ho2.form; have hbs2 := hb2.size; have hb02 := hb0.trans (hb2.mono (by omega)); have hcell := (hb2.cell (p := ⟨b, o + k, none⟩) (by show b < _; omega)).trans hcell) | (go_at_call 54; refine (without_any _ _ _ _ _ _ (h.below hb02 hhi) (by omega) htq hplq hff).mono ?_; rw [Hwo.out]; rintro e w3 ⟨v3, s3, rfl, ho3, hb3, hs3⟩; have hbs3 := hb3.size; have hi3 := ho3.rows) | (go_at_call 53; refine (ih (U ++ [cell p r i]) _ _ _ _ hcnt2 hi3 hs3).mono ?_; rintro e w4 ⟨rfl, hb4⟩))
            go_roundw
            case rel => exact ⟨k + 1, _, by omega, by go_num, rfl, ((hb.trans (hb2.mono hbs)).trans (hb3.mono (by omega))).trans (hb4.mono (by omega)), by rw [Hst.out, ← HN.out, Hcs.out]; rfl⟩
            case measure => simp [intOf]; omega
          · have hf1 : ¬ freeB (less p U) (gi L k) = true := by rw [hfr, decide_eq_false hone]; simp
            have hd : ((C.length : Int) == 1) = false := beq_f (by omega)
            have Hcs := Lib.hid (show cntStep (less p U) N (gi L k) = N by rw [cntStep, if_neg hf1])
            clear hf1 hfr he hone
            go_wp2_with (first | (go_at_call 48; refine (find_any _ _ _ _ _ _ (h.below hb0 hhi)).mono ?_; rw [e1, e2]; rintro e w' ⟨rfl, rfl⟩) | (go_at_call 49; refine (cone_any _ _ _ _ _ _ _ (h.below hb0 hhi) (by omega) htq hrq hi6 hplq).mono ?_; rw [← HC.out]; rintro e w2 ⟨v2, rfl, ho2, hb2⟩; obtain ⟨A2, c2, rfl, hc2, hm2⟩ := ho2.form))
            go_roundw
            case rel => exact ⟨k + 1, N, by omega, by go_num, rfl, hb.trans (hb2.mono hbs), by rw [Hst.out, ← HN.out, Hcs.out]; rfl⟩
            case measure => simp [intOf]; omega
        · have He := Lib.hid (show k = L.length by omega)
          go_wp2
          go_ret
          exact ⟨ret_int (by rw [Hc.out, HN.out, He.out, List.take_length]), hb0⟩
def ctS (p : List (List Int)) : Int := if vPile p = true then (if (labelsL p).length ≤ 8 then cnt p else -1) else -1
theorem less_nil' (p : List (List Int)) : cnt (less p []) = cnt p := by rw [less_nil]
set_option maxHeartbeats 1000000 in
theorem sCountTakes_any (lo hi : Nat) (v : Value) (p : List (List Int)) (w : World) (h : IRows w lo hi v p) (hhi : hi ≤ w.heap.size) (ht : tot p ≤ 1048576) :
    Calls Try.prog 22 #[v] w fun e w' => e = .returned (.int .i64 (ctS p)) ∧ Below w.heap.size w w' := by
  cases hv : vPile p
  · have Hr := Lib.hid (show ctS p = -1 by rw [ctS, if_neg (by simp [hv])])
    go_enter Try.func22, Try.ntmps22
    go_wp2_with (go_at_call 46; refine (validPile_any _ _ _ _ _ h hhi ht).mono ?_; rw [hv]; rintro e w1 ⟨rfl, hb1⟩)
    go_ret
    exact ⟨ret_int Hr.out.symm, hb1⟩
  · have hV := vPile_true hv
    have Hu := Lib.hid (uniq_of_valid hV)
    have Hn := Lib.hid (labels_nodup hV)
    have hpl : p.length ≤ 1048576 := by have := hV.1; omega
    clear hV
    have hlen1 := labelsL_len p
    by_cases hl : (labelsL p).length ≤ 8
    · have Hr := Lib.hid (show ctS p = cnt p by rw [ctS, if_pos hv, if_pos hl])
      have hd : ((8 : Int) < ((labelsL p).length : Int)) = False := by simp; omega
      go_enter Try.func22, Try.ntmps22
      go_wp2_with (first | (go_at_call 46; refine (validPile_any _ _ _ _ _ h hhi ht).mono ?_; rw [hv]; rintro e w1 ⟨rfl, hb1⟩; have hbs1 := hb1.size) | (go_at_call 52; refine (labels_any _ _ _ _ _ (h.below hb1 hhi) (by omega) ht).mono ?_; rintro e w2 ⟨v2, rfl, ho2, hb2⟩; obtain ⟨A2, c2, rfl, hc2, hm2⟩ := ho2.form; have hbs2 := hb2.size; have hb02 := hb1.trans (hb2.mono hbs1)) | (go_at_call 53; refine (countTakes_any Hu.out Hn.out ht hpl 8 [] _ _ _ _ (by rw [less_nil]; exact hl) (by rw [less_nil]; exact h.below hb02 hhi) (by omega)).mono ?_; rw [less_nil]; rintro e w3 ⟨rfl, hb3⟩))
      go_ret
      exact ⟨ret_int Hr.out.symm, hb02.trans (hb3.mono (by omega))⟩
    · have Hr := Lib.hid (show ctS p = -1 by rw [ctS, if_pos hv, if_neg hl])
      go_enter Try.func22, Try.ntmps22
      go_wp2_with (first | (go_at_call 46; refine (validPile_any _ _ _ _ _ h hhi ht).mono ?_; rw [hv]; rintro e w1 ⟨rfl, hb1⟩; have hbs1 := hb1.size) | (go_at_call 52; refine (labels_any _ _ _ _ _ (h.below hb1 hhi) (by omega) ht).mono ?_; rintro e w2 ⟨v2, rfl, ho2, hb2⟩; obtain ⟨A2, c2, rfl, hc2, hm2⟩ := ho2.form; have hbs2 := hb2.size; have hb02 := hb1.trans (hb2.mono hbs1)))
      go_ret
      exact ⟨ret_int Hr.out.symm, hb02⟩
end Go.Proofs.Ytpimbibmlmjjpaa
