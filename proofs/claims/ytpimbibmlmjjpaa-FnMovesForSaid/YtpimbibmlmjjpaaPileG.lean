/-
  Lemmas and contracts of single functions of this program, used by the proofs of its laws: what each call returns and what becomes of memory. Conditions: the hypotheses of each theorem.
-/
import Derived.Test.YtpimbibmlmjjpaaPileF
import Derived.Test.YtpimbibmlmjjpaaOwn
namespace Go.Proofs.Ytpimbibmlmjjpaa
open Go.RowKit

set_option maxHeartbeats 400000 in
theorem markIntSS_any (base s : Nat) (v : Value) (p : List (List Int)) (n : Nat) (w : World) (h : OwnR w base s 26 3 v p) (hl : tot p ≤ 1048576) (hn : n ≤ 1) :
    Calls Try.prog 28 #[v, .int .i64 n] w fun e w' => e = .returned (.int .i64 ((n + tot p : Nat) : Int)) ∧ OwnR w' base s 26 3 v (upLL n p) ∧ Only base s w w' := by
  obtain ⟨A, c, rfl, hc, hm⟩ := h.form
  go_enter Try.func28, Try.ntmps28
  go_wp2
  go_loopw [1, 5] (fun m i wr => ∃ k : Nat, k ≤ p.length ∧ i = .int .i64 k ∧ m = .int .i64 ((n + tot (p.take k) : Nat) : Int) ∧ OwnR wr base s 26 3 (.slice A p.length c) (upLL n (p.take k) ++ p.drop k) ∧ Only base s w wr) (fun _ i _ => p.length - (intOf i).toNat)
  case atStart => exact ⟨0, by omega, rfl, by simp [tot], by simpa [upLL] using h, Only.refl _ _ _⟩
  case round =>
    obtain ⟨k, hk, rfl, rfl, hown, ho⟩ := hrel
    by_cases hlt : k < p.length
    · have hrow : gr (upLL n (p.take k) ++ p.drop k) k = gr p k := by
        unfold gr
        rw [List.getD_eq_getElem?_getD, List.getElem?_append_right (by rw [upLL_len, List.length_take]; omega), upLL_len, List.length_take, Nat.min_eq_left (by omega), Nat.sub_self, List.getElem?_drop]
        simp
      obtain ⟨g, Ai, ci, rfl, hgl, hgh, hcell, hci, hmi, hoi, hbs, hst⟩ := hown.rowAt (r := k) (by decide) (by rw [List.length_append, upLL_len, List.length_take, List.length_drop]; omega)
      rw [hrow] at hcell hci hoi hbs
      have Hst := Lib.hid hst
      have Hrow := Lib.hid hrow
      have hlen := tot_take hlt
      have Ht := Lib.hid (tot_succ hlt)
      clear hst hrow
      obtain ⟨m, hm'⟩ : ∃ m, m = n + tot (p.take k) := ⟨_, rfl⟩
      rw [← hm']
      have Hm := Lib.hid hm'
      have hm1 : m ≤ 1048577 := by omega
      clear hm'
      go_wp2_with (go_at_call 57; refine (markIntS_any _ s _ _ _ _ hoi hbs (by omega) (by omega)).mono ?_; rintro e w1 ⟨rfl, ho1, hon, hother⟩)
      go_roundw
      case rel =>
        refine ⟨k + 1, by omega, by go_num, by rw [Ht.out]; have := Hm.out; go_num, ?_, ho.trans hon⟩
        have h2 := Hst.out w1 (upL m (gr p k).length)
        rw [Hrow.out] at h2
        have h3 := h2 ho1 hother
        have e : (upLL n (p.take k) ++ p.drop k).set k (upL m (gr p k).length) = upLL n (p.take (k + 1)) ++ p.drop (k + 1) := by
          rw [List.set_append_right _ _ (by rw [upLL_len, List.length_take]; omega), upLL_len, List.length_take, Nat.min_eq_left (by omega), Nat.sub_self, drop_gr hlt, List.set_cons_zero, take_gr hlt, upLL_snoc, Hm.out, List.append_assoc]; rfl
        rw [← e]; exact h3
      case measure => simp [intOf]; omega
    · have He := Lib.hid (show k = p.length by omega)
      go_wp2
      go_ret
      exact ⟨ret_int (by rw [He.out, List.take_length]), by simpa [He.out] using hown, ho⟩

theorem OwnI.prefix_ {w : World} {base e n c : Nat} {A : Option Addr} {xs ys : List Int} (h : OwnI w base e (.slice A n c) (xs ++ ys)) : OwnI w base e (.slice A xs.length c) xs := by
  refine ⟨⟨by simp, ?_⟩, fun x hx => h.2 x (List.mem_append.2 (.inl hx))⟩
  rcases h.1.2 with ⟨e1, h0⟩ | ⟨g, cap, cur, e1, hb, hg, hnc, hcm, hcs, ht⟩
  · injection e1 with e2 e3 e4
    subst e2
    rw [List.length_append] at h0
    have : xs = [] := List.eq_nil_of_length_eq_zero (by omega)
    subst this
    exact .inl ⟨by rw [e4]; rfl, rfl⟩
  · injection e1 with e2 e3 e4
    subst e2 e4
    rw [List.length_append] at hnc
    refine .inr ⟨g, c, cur, rfl, hb, hg, by omega, hcm, hcs, ?_⟩
    have := congrArg (List.take xs.length) ht
    rw [List.take_take, List.length_append] at this
    rw [show min xs.length ((xs.length + ys.length) * 1) = xs.length by omega] at this
    rw [Nat.mul_one, this]
    simp

set_option maxHeartbeats 800000 in
theorem sAboveOf_any (lo hi : Nat) (v : Value) (p : List (List Int)) (n : Int) (w : World) (h : IRows w lo hi v p) (hhi : hi ≤ w.heap.size) (ht : tot p ≤ 1048576) :
    Calls Try.prog 17 #[v, .int .i64 n] w fun e w' => ∃ v', e = .returned v' ∧ OwnI w' w.heap.size 3 v' (abvL p n) ∧ Below w.heap.size w w' := by
  obtain ⟨A, c, rfl, hc, hm⟩ := h.form
  cases hv : vPile p
  · have Habv := Lib.hid (show abvL p n = [] by rw [abvL, if_neg (by unfold FR okLabel; simp [hv])])
    go_enter Try.func17, Try.ntmps17
    go_wp2_with (go_at_call 46; refine (validPile_any _ _ _ _ _ h hhi ht).mono ?_; rw [hv]; rintro e w1 ⟨rfl, hb⟩)
    go_ret
    exact ⟨_, rfl, by rw [Habv.out]; exact OwnI.nil _ _ _, hb⟩
  · cases hr : inR 1 9999 n
    · have Habv := Lib.hid (show abvL p n = [] by rw [abvL, if_neg (by unfold FR okLabel; simp [hr])])
      go_enter Try.func17, Try.ntmps17
      go_wp2_with (first | (go_at_call 46; refine (validPile_any _ _ _ _ _ h hhi ht).mono ?_; rw [hv]; rintro e w1 ⟨rfl, hb⟩) | (go_at_call 47; refine (inRange_any _ _ _ _).mono ?_; rw [hr]; rintro e w' ⟨rfl, rfl⟩))
      go_ret
      exact ⟨_, rfl, by rw [Habv.out]; exact OwnI.nil _ _ _, hb⟩
    · have hok : okLabel p n = true := by simp [okLabel, hv, hr]
      have hFR : FR p n = fndR p n := by rw [FR, if_pos hok]
      have hFC : FC p n = fndC p n := by rw [FC, if_pos hok]
      by_cases hF : 0 ≤ FR p n
      · obtain ⟨row, at_, hR, hC, hrow, hati, hcel, HV0, hn1, hn2⟩ := FR_spec hF
        have hR' : fndR p n = row := by rw [← hFR, hR]
        have hC' : fndC p n = at_ := by rw [← hFC, hC]
        have hpl : p.length ≤ 6 := HV0.1
        have hat6 : at_ ≤ 6 := by
          have h1 := (HV0.2.2 row hrow).1
          rcases HV0.2.1 with h2 | h2 <;> omega
        have Habv := Lib.hid (show abvL p n = aboveL p row at_ by rw [abvL, if_pos hF, hR, hC]; rfl)
        have Hcone := Lib.hid (coneL_above hrow hati (by omega))
        have hlc : 1 ≤ (coneL p row at_).length := by rw [Hcone.out]; simp
        have hla := coneL_len (p := p) (at_ := at_) (show row ≤ p.length by omega)
        have Hla := Lib.hid (show (coneL p row at_).length = (aboveL p row at_).length + 1 by rw [Hcone.out]; simp)
        have hF0 : ¬ ((row : Int) < 0) := by omega
        clear hR hC hFR hFC hcel HV0 hF hok
        go_enter Try.func17, Try.ntmps17
        go_wp2_with (first | (go_at_call 46; refine (validPile_any _ _ _ _ _ h hhi ht).mono ?_; rw [hv]; rintro e w1 ⟨rfl, hb⟩) | (go_at_call 47; refine (inRange_any _ _ _ _).mono ?_; rw [hr]; rintro e w' ⟨rfl, rfl⟩) | (go_at_call 48; refine (find_any _ _ _ _ _ _ (h.below hb hhi)).mono ?_; rw [hR', hC']; rintro e w' ⟨rfl, rfl⟩) | (go_at_call 49; refine (cone_any _ _ _ _ _ _ _ (h.below hb hhi) (by have := hb.size; omega) ht (by omega) (by omega) (by omega)).mono ?_; rintro e w2 ⟨v2, rfl, ho2, hb2⟩; obtain ⟨A2, c2, rfl, hc2, hm2⟩ := ho2.form))
        go_ret
        refine ⟨_, rfl, ?_, hb.trans (hb2.mono hb.size)⟩
        rw [Hcone.out] at ho2
        have h3 := ho2.prefix_
        show OwnI w2 w.heap.size 3 (.slice A2 ((coneL p row at_).length - 1) c2) (abvL p n)
        rw [Habv.out, Hla.out, Nat.add_sub_cancel]
        exact h3.base hb.size
      · have Habv := Lib.hid (show abvL p n = [] by rw [abvL, if_neg hF])
        have hF' : fndR p n < 0 := by omega
        clear hF hFR hFC hok
        go_enter Try.func17, Try.ntmps17
        go_wp2_with (first | (go_at_call 46; refine (validPile_any _ _ _ _ _ h hhi ht).mono ?_; rw [hv]; rintro e w1 ⟨rfl, hb⟩) | (go_at_call 47; refine (inRange_any _ _ _ _).mono ?_; rw [hr]; rintro e w' ⟨rfl, rfl⟩) | (go_at_call 48; refine (find_any _ _ _ _ _ _ (h.below hb hhi)).mono ?_; rintro e w' ⟨rfl, rfl⟩))
        go_ret
        exact ⟨_, rfl, by rw [Habv.out]; exact OwnI.nil _ _ _, hb⟩
end Go.Proofs.Ytpimbibmlmjjpaa
