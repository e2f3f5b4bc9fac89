/-
  Lemmas and contracts of single functions of this program, used by the proofs of its laws: what each call returns and what becomes of memory. Conditions: the hypotheses of each theorem.
-/
import Derived.Test.YtpimbibmlmjjpaaPileJ
namespace Go.Proofs.Ytpimbibmlmjjpaa
open Go.RowKit

theorem restL_take {p : List (List Int)} {L : List Int} {k : Nat} (h : k < L.length) : restL p (L.take (k + 1)) = if 0 ≤ fndR (restL p (L.take k)) (gi L k) then withoutL (restL p (L.take k)) (gi L k) else restL p (L.take k) := by
  rw [take_gi h, restL, List.foldl_append]; rfl
theorem plc_le (xs : List Int) (n : Int) : -1 ≤ plc xs n := by
  by_cases h : 0 ≤ plc xs n
  · omega
  · have : ∀ (ys : List Int) (k : Nat), -1 ≤ plcFrom ys n k := by
      intro ys
      induction ys with
      | nil => intro k; simp [plcFrom]
      | cons y t ih => intro k; rw [plcFrom]; split <;> first | omega | exact ih _
    exact this xs 0

theorem placeIn_qt (lo hi : Nat) (v : Value) (xs : List Int) (n : Int) (w : World) (h : Ints w lo hi v xs) :
    Calls Try.prog 65 #[v, .int .i64 n] w fun e w' => e = .returned (.int .i64 (plc xs n)) ∧ Qt w w' :=
  (placeIn_any lo hi v xs n w h).mono fun e w' ⟨a, b⟩ => ⟨a, by subst b; exact Qt.refl _⟩
set_option maxRecDepth 100000 in
set_option maxHeartbeats 6000000 in
theorem sMovesFor_any (lo hi lo2 hi2 : Nat) (v u : Value) (p : List (List Int)) (L : List Int) (w : World) (h : IRows w lo hi v p) (hhi : hi ≤ w.heap.size) (ht : tot p ≤ 1048576) (hL : Ints w lo2 hi2 u L) (hhi2 : hi2 ≤ w.heap.size) (hl : L.length ≤ 1048576) :
    Calls Try.prog 39 #[v, u] w fun e w' => e = .returned (.int .i64 (movS p L)) ∧ Below w.heap.size w w' := by
  obtain ⟨A2, c2, rfl, hc2, hm2⟩ := hL.form
  cases hv : vPile p
  · have Hr := Lib.hid (show movS p L = -1 by rw [movS, if_neg (by simp [hv])])
    go_enter Try.func39, Try.ntmps39
    go_wp2_with (go_at_call 46; refine (validPile_any _ _ _ _ _ h hhi ht).mono ?_; rw [hv]; rintro e w1 ⟨rfl, hb⟩)
    go_ret
    exact ⟨ret_int Hr.out.symm, hb⟩
  · have ht36 := valid_tot (vPile_true hv)
    have hpl : p.length ≤ 6 := (vPile_true hv).1
    have Hr := Lib.hid (show movS p L = if anyB (badS p L) L.length = true then -1 else ((labelsL p).length : Int) - (labelsL (restL p L)).length by rw [movS, if_pos hv])
    go_enter Try.func39, Try.ntmps39
    go_wp2_with (first | (go_at_call 46; refine (validPile_any _ _ _ _ _ h hhi ht).mono ?_; rw [hv]; rintro e w1 ⟨rfl, hb1⟩; have hbs1 := hb1.size) | (go_at_call 52; refine (labels_any _ _ _ _ _ (h.below hb1 hhi) (by omega) ht).mono ?_; rintro e w2 ⟨v2, rfl, ho2, hb2⟩; obtain ⟨A3, c3, rfl, hc3, hm3⟩ := ho2.form; have hbs2 := hb2.size; have hb02 := hb1.trans (hb2.mono hbs1)))
    have Hv := Lib.hid hv
    clear hv
    have hla := labelsL_len p
    go_loopw [6] (fun i wr => ∃ k : Nat, k ≤ L.length ∧ i = .int .i64 k ∧ Qt w2 wr ∧ Hid (∀ j, j < k → badS p L j = false)) (fun i _ => L.length - (intOf i).toNat)
    case atStart => exact ⟨0, by omega, rfl, Qt.refl _, fun j hj => absurd hj (by omega)⟩
    case round =>
      obtain ⟨k, hk, rfl, hq, HB⟩ := hrel
      have hLr := (hL.below hb02 hhi2).qt hq
      have hall := ho2.ints.qt hq
      by_cases hlt : k < L.length
      · obtain ⟨b, o, rfl, hbl, hbh, hcell, h64⟩ := hLr.cell hlt
        have hLt := hLr.take (i := k) (by omega)
        have h1k := plc_le (labelsL p) (gi L k)
        have h2k := plc_le (L.take k) (gi L k)
        have hc1 := fun n => placeIn_qt _ _ _ _ (gi L k) _ (hall.drewN n)
        have hc2' := fun n => placeIn_qt _ _ _ _ (gi L k) _ (hLt.drewN n)
        have hbd : badS p L k = (decide (gi L k < 1) || decide (plc (labelsL p) (gi L k) < 0) || decide (0 ≤ plc (L.take k) (gi L k))) := rfl
        obtain ⟨pa, hpa⟩ : ∃ x, x = plc (labelsL p) (gi L k) := ⟨_, rfl⟩
        obtain ⟨pb, hpb⟩ : ∃ x, x = plc (L.take k) (gi L k) := ⟨_, rfl⟩
        rw [← hpa] at hc1 hbd h1k
        rw [← hpb] at hc2' hbd h2k
        have Hc1 := Lib.hid hc1
        have Hc2 := Lib.hid hc2'
        have Hbd := Lib.hid hbd
        clear hc1 hc2' hbd hpa hpb hall hLt hLr
        by_cases hx : gi L k < 1
        · have Hbad := Lib.hid (show badS p L k = true by rw [Hbd.out]; simp [hx])
          go_wp2
          go_quiet (fail)
          go_wp2
          go_ret
          exact ⟨ret_int (by rw [Hr.out, if_pos (anyB_true hlt Hbad.out)]), hb02.trans ((hq.trans (Qt.one _ _)).below _)⟩
        · by_cases hx2 : pa < 0
          · have Hbad := Lib.hid (show badS p L k = true by rw [Hbd.out]; simp [hx2])
            have hd1 : decide (gi L k < 1) = false := decide_eq_false (by omega)
            have hd2 : decide (pa < 0) = true := decide_eq_true hx2
            go_wp2
            go_quiet ((go_at_call 65; exact Qt.call (Hc1.out _)))
            go_wp2
            go_ret
            exact ⟨ret_int (by rw [Hr.out, if_pos (anyB_true hlt Hbad.out)]), hb02.trans ((hq.trans (Qt.one _ _)).below _)⟩
          · by_cases hx3 : 0 ≤ pb
            · have Hbad := Lib.hid (show badS p L k = true by rw [Hbd.out]; simp [hx3])
              have hd1 : decide (gi L k < 1) = false := decide_eq_false (by omega)
              have hd2 : decide (pa < 0) = false := decide_eq_false (by omega)
              have hd3 : decide (0 ≤ pb) = true := decide_eq_true hx3
              go_wp2
              go_quiet ((go_at_call 65; first | with_reducible exact Qt.call (Hc1.out _) | with_reducible exact Qt.call (Hc2.out _)))
              go_wp2
              go_ret
              exact ⟨ret_int (by rw [Hr.out, if_pos (anyB_true hlt Hbad.out)]), hb02.trans ((hq.trans (Qt.one _ _)).below _)⟩
            · have Hbad := Lib.hid (show badS p L k = false by rw [Hbd.out]; simp [hx, hx2, hx3])
              have hd1 : decide (gi L k < 1) = false := decide_eq_false (by omega)
              have hd2 : decide (pa < 0) = false := decide_eq_false (by omega)
              have hd3 : decide (0 ≤ pb) = false := decide_eq_false (by omega)
              go_wp2
              go_quiet ((go_at_call 65; first | with_reducible exact Qt.call (Hc1.out _) | with_reducible exact Qt.call (Hc2.out _)))
              go_wp2
              go_roundw
              case rel =>
                refine ⟨k + 1, by omega, by go_num, hq.trans (Qt.one _ _), fun j hj => ?_⟩
                rcases Nat.lt_or_ge j k with h1 | h1
                · exact HB.out j h1
                · have : j = k := by omega
                  subst this; exact Hbad.out
              case measure => simp [intOf]; omega
      · have e : k = L.length := by omega
        have Hno := Lib.hid (anyB_false HB.out)
        rw [e] at Hno
        clear HB e
        go_wp2
        obtain ⟨w3, hw3⟩ : ∃ w3, w3 = wr := ⟨_, rfl⟩
        have hb03 := hb02.trans (hq.below _)
        rw [← hw3] at hb03 ⊢
        have hbs3 := hb03.size
        clear hw3 hq hall hLr
        have e0 : OwnR w3 w.heap.size w3.heap.size 26 3 (.slice none 0 0) [] := OwnR.nil _ _ _ _ _
        have hp3 := h.below hb03 hhi
        obtain ⟨A0, c0, rfl, hc0, hm0⟩ := h.form
        go_loopw [7, 8, 9, 10] (fun q i _ _ wr => ∃ (k : Nat) (Q : List (List Int)), k ≤ L.length ∧ i = .int .i64 k ∧ IRows wr 0 wr.heap.size q Q ∧ Below w.heap.size w wr ∧ SameShape Q p ∧ Hid (Q = restL p (L.take k))) (fun _ i _ _ _ => L.length - (intOf i).toNat)
        case atStart => exact ⟨0, p, by omega, rfl, hp3.wide (by omega) (by omega), hb03, SameShape.refl _, rfl⟩
        case round =>
          obtain ⟨k, Q, hk, rfl, hQ, hb, hs, HQ⟩ := hrel
          have hbs := hb.size
          have hLr := hL.below hb hhi2
          have htQ := Nat.le_of_eq (shape_tot hs)
          have hlQ := Nat.le_of_eq hs.1
          have Hs := Lib.hid hs
          clear hs
          by_cases hlt : k < L.length
          · obtain ⟨b, o, rfl, hbl, hbh, hcell, h64⟩ := hLr.cell hlt
            obtain ⟨AQ, cQ, rfl, hcQ, hmQ⟩ := hQ.form
            have hfind := find_any _ _ _ _ (gi L k) _ hQ
            have hwo := fun hf => without_any _ _ _ _ (gi L k) _ hQ (Nat.le_refl _) (by omega) (by omega) hf
            have Hrt := Lib.hid (restL_take (p := p) hlt)
            rw [← HQ.out] at Hrt
            obtain ⟨W, hW⟩ : ∃ W, W = withoutL Q (gi L k) := ⟨_, rfl⟩
            have Hs2 := Lib.hid (show SameShape (withoutL Q (gi L k)) p from by
                have h1 := withoutL_shape Q (gi L k)
                exact ⟨h1.1.trans Hs.out.1, fun r => (h1.2 r).trans (Hs.out.2 r)⟩)
            rw [← hW] at hwo Hrt Hs2
            obtain ⟨fc, hfc⟩ : ∃ x, x = fndC Q (gi L k) := ⟨_, rfl⟩
            rw [← hfc] at hfind
            obtain ⟨fr, hfr⟩ : ∃ x, x = fndR Q (gi L k) := ⟨_, rfl⟩
            rw [← hfr] at hfind hwo Hrt
            have Hfind := Lib.hid hfind
            have Hwo := Lib.hid hwo
            clear hfr hfc hW hfind hwo
            by_cases hf : 0 ≤ fr
            · have HQ2 := Lib.hid (show W = restL p (L.take (k + 1)) by rw [Hrt.out, if_pos hf])
              go_wp2_with (first | (go_at_call 48; refine Hfind.out.mono ?_; rintro e w' ⟨rfl, rfl⟩) | (go_at_call 54; refine (Hwo.out hf).mono ?_; rintro e w4 ⟨v4, s4, rfl, ho4, hb4, hs4⟩))
              go_roundw
              case rel => exact ⟨k + 1, _, by omega, by go_num, ho4.rows.wide (by omega) hs4, hb.trans (hb4.mono hbs), Hs2.out, HQ2.out⟩
              case measure => simp [intOf]; omega
            · have HQ2 := Lib.hid (show Q = restL p (L.take (k + 1)) by rw [Hrt.out, if_neg hf])
              go_wp2_with (go_at_call 48; refine Hfind.out.mono ?_; rintro e w' ⟨rfl, rfl⟩)
              go_roundw
              case rel => exact ⟨k + 1, _, by omega, by go_num, hQ, hb, Hs.out, HQ2.out⟩
              case measure => simp [intOf]; omega
          · have e : k = L.length := by omega
            have HQ2 := Lib.hid (show Q = restL p L by have := HQ.out; rwa [e, List.take_length] at this)
            have hla2 := labelsL_len Q
            clear HQ e
            go_wp2_with (go_at_call 52; refine (labels_any _ _ _ _ _ hQ (Nat.le_refl _) (by omega)).mono ?_; rintro e w5 ⟨v5, rfl, ho5, hb5⟩; obtain ⟨A5, c5, rfl, hc5, hm5⟩ := ho5.form)
            go_ret
            exact ⟨ret_int (by rw [Hr.out, if_neg (by rw [Hno.out]; simp), ← HQ2.out]), hb.trans (hb5.mono hbs)⟩
end Go.Proofs.Ytpimbibmlmjjpaa
