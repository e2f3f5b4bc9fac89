/-
  Lemmas and contracts of single functions of this program, used by the proofs of its laws: what each call returns and what becomes of memory. Conditions: the hypotheses of each theorem.
-/
import Derived.Test.YtpimbibmlmjjpaaPileH
namespace Go.Proofs.Ytpimbibmlmjjpaa
open Go.RowKit

theorem zeroIn_set (L xs : List Int) (j : Nat) (h : j < xs.length) (hz : inL L (gi xs j) = true) : (zeroIn L (xs.take j) ++ xs.drop j).set j 0 = zeroIn L (xs.take (j + 1)) ++ xs.drop (j + 1) := by
  have e : zeroIn L [gi xs j] = [0] := by simp [zeroIn, hz]
  have e2 : zeroIn L (xs.take (j + 1)) = zeroIn L (xs.take j) ++ [0] := by rw [take_gi h, ← e]; simp [zeroIn]
  have hl : (zeroIn L (xs.take j)).length = j := by rw [zeroIn, List.length_map, List.length_take]; omega
  rw [List.set_append_right _ _ (by omega), hl, Nat.sub_self, drop_gi h, List.set_cons_zero, e2, List.append_assoc]; rfl
theorem zeroIn_keep (L xs : List Int) (j : Nat) (h : j < xs.length) (hz : inL L (gi xs j) = false) : zeroIn L (xs.take j) ++ xs.drop j = zeroIn L (xs.take (j + 1)) ++ xs.drop (j + 1) := by
  have e : zeroIn L [gi xs j] = [gi xs j] := by
    show [if inL L (gi xs j) = true then 0 else gi xs j] = [gi xs j]
    rw [hz]; rfl
  have e2 : zeroIn L (xs.take (j + 1)) = zeroIn L (xs.take j) ++ [gi xs j] := by
    rw [take_gi h]
    conv => rhs; rw [← e]
    simp only [zeroIn, List.map_append]
  rw [e2, List.append_assoc, List.singleton_append, ← drop_gi h]
theorem gi_half (L xs : List Int) (j : Nat) (h : j < xs.length) : gi (zeroIn L (xs.take j) ++ xs.drop j) j = gi xs j := by
  have hl : (zeroIn L (xs.take j)).length = j := by rw [zeroIn, List.length_map, List.length_take]; omega
  unfold gi
  rw [List.getD_eq_getElem?_getD, List.getElem?_append_right (by omega), hl, Nat.sub_self, List.getElem?_drop]
  simp
theorem half_len (L xs : List Int) (j : Nat) (h : j ≤ xs.length) : (zeroIn L (xs.take j) ++ xs.drop j).length = xs.length := by
  rw [List.length_append, zeroIn, List.length_map, List.length_take, List.length_drop]; omega
theorem gr_half (L : List Int) (q : List (List Int)) (k : Nat) (h : k < q.length) : gr ((q.take k).map (zeroIn L) ++ q.drop k) k = gr q k := by
  unfold gr
  rw [List.getD_eq_getElem?_getD, List.getElem?_append_right (by simp; omega)]
  simp [Nat.min_eq_left (Nat.le_of_lt h)]
theorem half_set (L : List Int) (q : List (List Int)) (k : Nat) (h : k < q.length) : ((q.take k).map (zeroIn L) ++ q.drop k).set k (zeroIn L (gr q k)) = (q.take (k + 1)).map (zeroIn L) ++ q.drop (k + 1) := by
  rw [List.set_append_right _ _ (by simp; omega), List.length_map, List.length_take, Nat.min_eq_left (by omega), Nat.sub_self, drop_gr h, List.set_cons_zero, take_gr h]
  simp

set_option maxHeartbeats 1000000 in
theorem TakeRoll_any (lo hi : Nat) (v : Value) (p : List (List Int)) (n : Int) (w : World) (h : IRows w lo hi v p) (hhi : hi ≤ w.heap.size) (ht : tot p ≤ 1048576) :
    Calls Try.prog 27 #[v, .int .i64 n] w fun e w' => ∃ v' s, e = .returned (.tuple #[v', .bool (decide (0 ≤ FR p n))]) ∧ OwnR w' w.heap.size s 26 3 v' (takeL p n) ∧ Below w.heap.size w w' ∧ s ≤ w'.heap.size := by
  obtain ⟨A, c, rfl, hc, hm⟩ := h.form
  by_cases hF : 0 ≤ FR p n
  · obtain ⟨row, at_, hR, hC, hrow, hati, hcel, HV0, hn1, hn2⟩ := FR_spec hF
    have hpl : p.length ≤ 6 := HV0.1
    have Htk := Lib.hid (show takeL p n = (set2 p row at_ 0).map (zeroIn (abvL p n)) by rw [takeL, if_pos hF, hR, hC]; rfl)
    have Hd := Lib.hid (show decide (0 ≤ FR p n) = true from decide_eq_true hF)
    clear hcel HV0 hF
    obtain ⟨L, hL⟩ : ∃ L, L = abvL p n := ⟨_, rfl⟩
    have HL := Lib.hid hL
    clear hL
    obtain ⟨q, hq⟩ : ∃ q, q = set2 p row at_ 0 := ⟨_, rfl⟩
    have Hq := Lib.hid hq
    have hs := set2_shape (SameShape.refl p) row at_ 0
    rw [← hq] at hs
    have hql : q.length ≤ 6 := by have := hs.1; omega
    have Hs := Lib.hid hs
    clear hq hs
    go_enter Try.func27, Try.ntmps27
    go_wp2_with (first | (go_at_call 18; refine (FindRoll_any _ _ _ _ _ _ h hhi ht).mono ?_; rw [hR, hC]; rintro e w1 ⟨rfl, hb1⟩; have hbs1 := hb1.size) | (go_at_call 15; refine (AboveOf_any _ _ _ _ _ _ (h.below hb1 hhi) (by omega) ht).mono ?_; rw [← HL.out]; rintro e w2 ⟨v2, rfl, ho2, hb2⟩; have hbs2 := hb2.size; have hb12 := hb1.trans (hb2.mono hbs1)) | (go_at_call 55; refine (clonePile_any _ _ _ _ _ (h.below hb12 hhi) (by omega) ht (by omega)).mono ?_; rintro e w3 ⟨v3, rfl, ho3, hb3⟩; obtain ⟨A3, c3, rfl, hc3, hm3⟩ := ho3.form; have hbs3 := hb3.size; obtain ⟨g, gi', ci, rfl, hgl, hgh, hc1', hci, hmi, hgil, hgih, _, hc2', hf2, hst⟩ := ho3.at_ (r := row) (i := at_) (by decide) hrow hati; have Hst := Lib.hid (hst 0 ⟨by omega, by omega⟩); clear hst))
    clear hR hC
    have hi2 := ho2.ints.kept (.of_below hb3 (Nat.le_refl _))
    have hb13 := hb12.trans (hb3.mono (by omega))
    have hon0 : Only w2.heap.size w3.heap.size w3 (w3.setCell ⟨gi', at_, none⟩ (.int .i64 0)) := (Only.refl _ _ _).setCell hgil hgih _
    have Ho := Hst.out
    rw [← Hq.out] at Ho
    have hlen : p.length = q.length := Hs.out.1.symm
    rw [hlen] at Ho ⊢
    clear hlen hc1' hci hc2' hf2
    obtain ⟨w4, hw4⟩ : ∃ w4, w4 = w3.setCell ⟨gi', at_, none⟩ (.int .i64 0) := ⟨_, rfl⟩
    rw [← hw4] at hon0 Ho ⊢
    clear hw4
    go_loopw [35, 11, 12, 13] (fun i _ _ _ wr => ∃ k : Nat, k ≤ q.length ∧ i = .int .i64 k ∧ OwnR wr w2.heap.size w3.heap.size 26 3 (.slice (some ⟨g, 0, none⟩) q.length c3) ((q.take k).map (zeroIn L) ++ q.drop k) ∧ Only w2.heap.size w3.heap.size w3 wr) (fun i _ _ _ _ => q.length - (intOf i).toNat)
    case atStart => exact ⟨0, by omega, rfl, by simpa using Ho, hon0⟩
    case round =>
      obtain ⟨k, hk, rfl, hown, hon⟩ := hrel
      by_cases hlt : k < q.length
      · obtain ⟨g', Ai, ci, hg', _, _, hcell, hci, hmi, hoi, hbs, hrst⟩ := hown.rowAt (r := k) (by decide) (by simp; omega)
        simp only [Option.some.injEq, Addr.mk.injEq, and_true] at hg'
        subst hg'
        rw [gr_half L q k hlt] at hcell hci hoi hbs
        have Hrst := Lib.hid hrst
        clear hrst
        go_wp2
        obtain ⟨wo, rfl⟩ : ∃ wo : World, wo = wr := ⟨_, rfl⟩
        go_loopw [41, 12, 13] (fun i _ _ wr => ∃ j : Nat, j ≤ (gr q k).length ∧ i = .int .i64 j ∧ OwnI wr w2.heap.size 3 (.slice Ai (gr q k).length ci) (zeroIn L ((gr q k).take j) ++ (gr q k).drop j) ∧ Only w2.heap.size w3.heap.size w3 wr ∧ Hid (∀ b, some b ≠ (Value.slice Ai (gr q k).length ci).ownBlock → wr.heap[b]? = wo.heap[b]?)) (fun i _ _ _ => (gr q k).length - (intOf i).toNat)
        case atStart => exact ⟨0, by omega, rfl, by simpa [zeroIn] using hoi, hon, fun _ _ => rfl⟩
        case round =>
          obtain ⟨j, hj, rfl, hoj, hon', HB⟩ := hrel
          by_cases hjt : j < (gr q k).length
          · obtain ⟨gj, rfl, hgjl, _, hcj, hfj, hsj⟩ := hoj.at_ (i := j) (by rw [half_len _ _ _ hj]; exact hjt)
            rw [gi_half L _ j hjt] at hcj
            have hgjs := hbs gj rfl
            have Hsj := Lib.hid (hsj 0 ⟨by omega, by omega⟩)
            clear hsj
            have hi2' := hi2.kept (hon'.kept (.inl (Nat.le_refl _)))
            cases hz : inL L (gi (gr q k) j)
            · go_wp2_with (go_at_call 56; refine (contains_any _ _ _ _ _ _ hi2').mono ?_; rw [hz]; rintro e w' ⟨rfl, rfl⟩)
              go_roundw
              case rel => exact ⟨j + 1, by omega, by go_num, by rw [← zeroIn_keep L _ j hjt hz]; exact hoj, hon', HB⟩
              case measure => simp [intOf]; omega
            · go_wp2_with (go_at_call 56; refine (contains_any _ _ _ _ _ _ hi2').mono ?_; rw [hz]; rintro e w' ⟨rfl, rfl⟩)
              go_roundw
              case rel =>
                refine ⟨j + 1, by omega, by go_num, by rw [← zeroIn_set L _ j hjt hz]; exact Hsj.out, hon'.setCell hgjl hgjs _, fun b hb => ?_⟩
                rw [← HB.out b hb]
                exact Below.heap_setCell _ _ _ _ (fun e => hb (by rw [e]; rfl))
              case measure => simp [intOf]; omega
          · have He := Lib.hid (show j = (gr q k).length by omega)
            go_wp2
            go_roundw
            case rel =>
              refine ⟨k + 1, by omega, by go_num, ?_, hon'⟩
              have h1 := Hrst.out wr (zeroIn L (gr q k))
              rw [gr_half L q k hlt] at h1
              have h2 := h1 (by rw [He.out] at hoj; simpa using hoj) HB.out
              rw [half_set L q k hlt] at h2
              exact h2
            case measure => simp [intOf]; omega
      · have He := Lib.hid (show k = q.length by omega)
        go_wp2
        go_ret2
        refine ⟨_, w3.heap.size, by rw [Hd.out]; rfl, ?_, hb13.trans (hon.below.mono (by omega)), by rw [hon.size]; exact Nat.le_refl _⟩
        rw [Htk.out, ← Hq.out, ← HL.out]
        rw [He.out] at hown
        exact (by simpa using hown : OwnR wr w2.heap.size w3.heap.size 26 3 _ (q.map (zeroIn L))).wide (by omega) (Nat.le_refl _)
  · have Htk := Lib.hid (show takeL p n = [] by rw [takeL, if_neg hF])
    have Hd := Lib.hid (show decide (0 ≤ FR p n) = false from decide_eq_false hF)
    have hF' : FR p n < 0 := by omega
    clear hF
    go_enter Try.func27, Try.ntmps27
    go_wp2_with (go_at_call 18; refine (FindRoll_any _ _ _ _ _ _ h hhi ht).mono ?_; rintro e w1 ⟨rfl, hb1⟩)
    go_ret2
    exact ⟨_, w1.heap.size, by rw [Hd.out]; rfl, by rw [Htk.out]; exact OwnR.nil _ _ _ _ _, hb1, Nat.le_refl _⟩

set_option maxHeartbeats 800000 in
theorem sTakeRoll_any (lo hi : Nat) (v : Value) (p : List (List Int)) (n : Int) (w : World) (h : IRows w lo hi v p) (hhi : hi ≤ w.heap.size) (ht : tot p ≤ 1048576) :
    Calls Try.prog 26 #[v, .int .i64 n] w fun e w' => ∃ v' s, e = .returned (.tuple #[v', .bool (decide (0 ≤ FR p n))]) ∧ OwnR w' w.heap.size s 26 3 v' (takeL p n) ∧ Below w.heap.size w w' ∧ s ≤ w'.heap.size := by
  obtain ⟨A, c, rfl, hc, hm⟩ := h.form
  rw [takeL_eq]
  by_cases hF : 0 ≤ FR p n
  · have hok : okLabel p n = true := by
      cases hk : okLabel p n
      · unfold FR at hF; rw [hk] at hF; simp at hF
      · rfl
    have hv : vPile p = true ∧ inR 1 9999 n = true := by simpa [okLabel] using hok
    obtain ⟨hv, hr⟩ := hv
    have hf : 0 ≤ fndR p n := by unfold FR at hF; rwa [if_pos hok] at hF
    have hpl : p.length ≤ 6 := (vPile_true hv).1
    have Htk := Lib.hid (show takeS p n = withoutL p n by rw [takeS, if_pos hF])
    have Hd := Lib.hid (show decide (0 ≤ FR p n) = true from decide_eq_true hF)
    clear hF hok
    go_enter Try.func26, Try.ntmps26
    go_wp2_with (first | (go_at_call 46; refine (validPile_any _ _ _ _ _ h hhi ht).mono ?_; rw [hv]; rintro e w1 ⟨rfl, hb⟩; have hbs := hb.size) | (go_at_call 47; refine (inRange_any _ _ _ _).mono ?_; rw [hr]; rintro e w' ⟨rfl, rfl⟩) | (go_at_call 48; refine (find_any _ _ _ _ _ _ (h.below hb hhi)).mono ?_; rintro e w' ⟨rfl, rfl⟩) | (go_at_call 54; refine (without_any _ _ _ _ _ _ (h.below hb hhi) (by omega) ht (by omega) hf).mono ?_; rintro e w2 ⟨v2, s, rfl, ho2, hb2, hs2⟩))
    go_ret2
    exact ⟨_, s, by rw [Hd.out]; rfl, by rw [Htk.out]; exact ho2.wide hbs (Nat.le_refl _), hb.trans (hb2.mono hbs), hs2⟩
  · have Htk := Lib.hid (show takeS p n = [] by rw [takeS, if_neg hF])
    have Hd := Lib.hid (show decide (0 ≤ FR p n) = false from decide_eq_false hF)
    have main : vPile p = false ∨ (vPile p = true ∧ inR 1 9999 n = false) ∨ (vPile p = true ∧ inR 1 9999 n = true ∧ fndR p n < 0) := by
      cases hv : vPile p
      · exact .inl rfl
      · cases hr : inR 1 9999 n
        · exact .inr (.inl ⟨rfl, rfl⟩)
        · refine .inr (.inr ⟨rfl, rfl, ?_⟩)
          unfold FR okLabel at hF
          rw [hv, hr] at hF
          simpa using hF
    clear hF
    rcases main with hv | ⟨hv, hr⟩ | ⟨hv, hr, hf⟩
    all_goals
      go_enter Try.func26, Try.ntmps26
      go_wp2_with (first | (go_at_call 46; refine (validPile_any _ _ _ _ _ h hhi ht).mono ?_; rw [hv]; rintro e w1 ⟨rfl, hb⟩; have hbs := hb.size) | (go_at_call 47; refine (inRange_any _ _ _ _).mono ?_; rw [hr]; rintro e w' ⟨rfl, rfl⟩) | (go_at_call 48; refine (find_any _ _ _ _ _ _ (h.below hb hhi)).mono ?_; rintro e w' ⟨rfl, rfl⟩))
      go_ret2
      exact ⟨_, w1.heap.size, by rw [Hd.out]; rfl, by rw [Htk.out]; exact OwnR.nil _ _ _ _ _, hb, Nat.le_refl _⟩

theorem takeL_len (p : List (List Int)) (n : Int) : (takeL p n).length ≤ p.length ∧ tot (takeL p n) ≤ tot p := by
  rw [takeL_eq]
  unfold takeS
  by_cases h : 0 ≤ FR p n
  · rw [if_pos h]
    have hs := withoutL_shape p n
    refine ⟨by rw [hs.1]; exact Nat.le_refl _, ?_⟩
    have e : (withoutL p n).map List.length = p.map List.length := by
      apply List.ext_getElem (by simp [hs.1])
      intro i h1 h2
      simp only [List.length_map] at h1 h2
      have := hs.2 i
      rw [gr_eq h1, gr_eq h2] at this
      simpa using this
    unfold tot
    rw [e]; exact Nat.le_refl _
  · rw [if_neg h]; simp [tot]

set_option maxRecDepth 100000 in
set_option maxHeartbeats 2000000 in
theorem FnExactTakeRoll_walk (v : Value) (p : List (List Int)) (n : Int) (w : World) (h : IRows w 0 w.heap.size v p) (_hn : I64 n) :
    Calls Try.prog 5 #[v, .int .i64 n] w fun e w' => e = .returned (.bool true) ∧ Below w.heap.size w w' := by
  obtain ⟨A, c, rfl, hc, hm⟩ := h.form
  go_enter Try.func5, Try.ntmps5
  go_wp2_with fail
  refine (szIntSS_any _ _ _ _ 1048576 _ h (by omega)).mono ?_
  rintro e w' ⟨⟨m, rfl, hm2⟩, rfl⟩
  by_cases hm0 : m < 0
  · go_wp2_with fail
    go_ret
    exact ⟨rfl, Below.refl _ _⟩
  · have hsz := hm2 (by omega)
    have Hm2 := Lib.hid hm2
    clear hm2
    have ht : tot p ≤ 1048576 := by omega
    have hpl : p.length ≤ 1048576 := by omega
    obtain ⟨T, hT⟩ : ∃ T, T = takeL p n := ⟨_, rfl⟩
    obtain ⟨d, hd⟩ : ∃ d, d = decide (0 ≤ FR p n) := ⟨_, rfl⟩
    have hTl := takeL_len p n
    rw [← hT] at hTl
    obtain ⟨hTl1, hTl2⟩ := hTl
    have HT := Lib.hid hT
    have HD := Lib.hid hd
    clear hT hd
    go_wp2_with fail
    refine (toIntSS_any _ _ _ _ _ h (Nat.le_refl _) ht hpl).mono ?_
    rintro e w1 ⟨u1, rfl, o1, b1⟩
    have s1 := b1.size
    go_wp2_with fail
    refine (sTakeRoll_any _ _ _ _ n _ o1.rows (Nat.le_refl _) ht).mono ?_
    rw [← HT.out, ← HD.out]
    rintro e w2 ⟨W, sW, rfl, o2, b2, hsW⟩
    have s2 := b2.size
    have B2 := b1.trans (b2.mono s1)
    go_wp2_with fail
    refine (toIntSS_any _ _ _ _ _ (h.below B2 (Nat.le_refl _)) (by omega) ht hpl).mono ?_
    rintro e w3 ⟨x0, rfl, o3, b3⟩
    have s3 := b3.size
    have B3 := B2.trans (b3.mono (by omega))
    go_wp2_with fail
    refine (TakeRoll_any _ _ _ _ n _ o3.rows (Nat.le_refl _) ht).mono ?_
    rw [← HT.out, ← HD.out]
    rintro e w4 ⟨g0, sG, rfl, o4, b4, hsG⟩
    have s4 := b4.size
    have B4 := B3.trans (b4.mono (by omega))
    have K24 : Below w2.heap.size w2 w4 := b3.trans (b4.mono s3)
    have W4 := o2.rows.kept (.of_below K24 hsW)
    go_wp2_with fail
    refine (eqIntSS_any _ _ _ _ _ _ _ _ _ o4.rows W4).mono ?_
    rw [eqLL_same]
    rintro e w5 ⟨rfl, q5⟩
    have b5 := q5.below w4.heap.size
    have s5 := b5.size
    have B5 := B4.trans (b5.mono (by omega))
    have K25 := K24.trans (b5.mono (by omega))
    go_wp2_with fail
    refine (toIntSS_any _ _ _ _ _ (h.below B5 (Nat.le_refl _)) (by omega) ht hpl).mono ?_
    rintro e w6 ⟨u6, rfl, o6, b6⟩
    have s6 := b6.size
    have B6 := B5.trans (b6.mono (by omega))
    have K26 := K25.trans (b6.mono (by omega))
    have K46 := b5.trans (b6.mono s5)
    have o3' := o3.kept (.of_below (b4.trans ((b5.mono s4).trans (b6.mono (by omega)))) (Nat.le_refl _))
    go_wp2_with fail
    refine (eqIntSS_any _ _ _ _ _ _ _ _ _ o3'.rows o6.rows).mono ?_
    rw [eqLL_same]
    rintro e w7 ⟨rfl, q7⟩
    have b7 := q7.below w6.heap.size
    have s7 := b7.size
    have B7 := B6.trans (b7.mono (by omega))
    have K27 := K26.trans (b7.mono (by omega))
    have K47 := K46.trans (b7.mono (by omega))
    have o3'' := o3'.kept (q7.kept _ _)
    go_wp2_with fail
    refine (markIntSS_any _ _ _ _ 1 _ o3'' ht (by omega)).mono ?_
    rintro e w8 ⟨rfl, _, n8⟩
    have s8 := n8.size
    have b8 := n8.below
    have B8 := B7.trans (b8.mono (by omega))
    have K28 := K27.trans b8
    have W8 := o2.rows.kept (.of_below K28 hsW)
    have o8 := (o4.kept (.of_below K47 hsG)).kept (n8.kept (.inr (Nat.le_refl _)))
    have h1k : ¬ ((1 + tot p : Nat) : Int) < 0 := by omega
    go_wp2_with fail
    refine (eqIntSS_any _ _ _ _ _ _ _ _ _ o8.rows W8).mono ?_
    rw [eqLL_same]
    rintro e w9 ⟨rfl, q9⟩
    have b9 := q9.below w8.heap.size
    have s9 := b9.size
    have B9 := B8.trans (b9.mono (by omega))
    have K29 := K28.trans (b9.mono (by omega))
    have o9 := o8.kept (q9.kept _ _)
    go_wp2_with fail
    refine (markIntSS_any _ _ _ _ 1 _ o9 (by omega) (by omega)).mono ?_
    rintro e w10 ⟨rfl, o10, n10⟩
    have s10 := n10.size
    have b10 := n10.below
    have B10 := B9.trans (b10.mono (by omega))
    have K210 := K29.trans (b10.mono (by omega))
    have hup := upLL_tot T 1
    have Hheld := Lib.hid (heldLL_upLL T 1)
    have hut : tot (upLL 1 T) ≤ 1048576 := by omega
    clear hup
    go_wp2_with fail
    refine (heldIntSS_any _ _ _ _ 1 _ o10.rows hut (by omega)).mono ?_
    rw [Hheld.out]
    rintro e w' ⟨rfl, rfl⟩
    go_wp2_with fail
    refine (toIntSS_any _ _ _ _ _ (h.below B10 (Nat.le_refl _)) (by omega) ht hpl).mono ?_
    rintro e w11 ⟨u11, rfl, o11, b11⟩
    have s11 := b11.size
    have B11 := B10.trans (b11.mono (by omega))
    go_wp2_with fail
    refine (TakeRoll_any _ _ _ _ n _ o11.rows (Nat.le_refl _) ht).mono ?_
    rw [← HT.out, ← HD.out]
    rintro e w12 ⟨h0, sH, rfl, o12, b12, hsH⟩
    have s12 := b12.size
    have B12 := B11.trans (b12.mono (by omega))
    have K12 := b11.trans (b12.mono s11)
    have W12 := o2.rows.kept (.of_below (K210.trans (K12.mono (by omega))) hsW)
    go_wp2_with fail
    refine (eqIntSS_any _ _ _ _ _ _ _ _ _ o12.rows W12).mono ?_
    rw [eqLL_same]
    rintro e w13 ⟨rfl, q13⟩
    have b13 := q13.below w12.heap.size
    have B13 := B12.trans (b13.mono (by omega))
    have o13 := (o10.kept (.of_below K12 (by omega))).kept (q13.kept _ _)
    go_wp2_with fail
    refine (heldIntSS_any _ _ _ _ 1 _ o13.rows hut (by omega)).mono ?_
    rw [Hheld.out]
    rintro e w' ⟨rfl, rfl⟩
    go_wp2_with fail
    go_ret
    exact ⟨rfl, B13⟩
end Go.Proofs.Ytpimbibmlmjjpaa
