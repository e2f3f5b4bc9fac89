/-
  Texts merged into one: what each function does, and plain lemmas. No condition.
-/
import Derived.Test.YtkgepklapglmdaaGreatDoorGrdR
import Derived.Test.YtkgepklapglmdaaGreatDoorZa
import Derived.Test.YtkgepklapglmdaaGreatDoorIntsS
namespace Go.Proofs.YtkgepklapglmdaaGreatDoor
open Go.RowKit
attribute [local go_sem ↓] Go.wp_at_zero Go.wp_at_succ

theorem sumI_sumG (xs : List Int) : ∀ k, k ≤ xs.length → sumI xs k = (xs.take k).sum
  | 0, _ => rfl
  | k + 1, hk => by
    have ih := sumI_sumG xs k (by omega)
    show sumI xs k + gi xs k = _
    rw [take_gi hk, List.sum_append, ih]; simp
theorem sumI_all (xs : List Int) : sumI xs xs.length = xs.sum := by rw [sumI_sumG xs _ (Nat.le_refl _), List.take_length]
set_option maxHeartbeats 1000000 in
theorem ValidWants_any (lo hi l2 h2 : Nat) (W : Int) (v u : Value) (ws xs : List Int) (w : World) (h : Ints w lo hi v ws) (hy : Ints w l2 h2 u xs) :
    Calls Tryz.prog 60 #[.int .i64 W, v, u] w fun e w' => e = .returned (.bool (vWan W ws xs)) ∧ w = w' := by
  obtain ⟨A, c, rfl, hc, hm⟩ := h.form
  obtain ⟨B, d, rfl, hd, hm2⟩ := hy.form
  obtain ⟨R, hR⟩ : ∃ R, R = vWan W ws xs := ⟨_, rfl⟩
  rw [← hR]
  have HR := Lib.hid hR
  clear hR
  go_enter Tryz.func60, Tryz.ntmps60
  go_wp2_with fail
  refine (ValidWidths_any lo hi W _ ws w h).mono ?_
  rintro e w1 ⟨rfl, hw1⟩
  subst hw1
  cases x1 : vWid W ws
  · have Hno := Lib.hid (show R = false by rw [HR.out]; unfold vWan; rw [x1]; rfl)
    go_wp2
    go_ret
    exact ⟨ret_bool Hno.out.symm, rfl⟩
  by_cases x2 : xs.length = ws.length
  rotate_left
  · have Hno := Lib.hid (show R = false by rw [HR.out]; unfold vWan; rw [decide_eq_false x2]; simp)
    have e2 : ((xs.length : Int) != (ws.length : Int)) = true := bne_t (by omega)
    go_wp2
    go_ret
    exact ⟨ret_bool Hno.out.symm, rfl⟩
  have X2 := Lib.hid x2
  have X1 := Lib.hid x1
  have e2 : ((xs.length : Int) != (ws.length : Int)) = false := bne_f (by omega)
  have hxl : xs.length ≤ 6 := by have := (vWid_iff.1 x1).2.2.2.1; omega
  clear x1 x2
  go_wp2
  clear e2
  go_loop [7, 9, 23] (fun s _ i => ∃ k : Nat, k ≤ xs.length ∧ i = .int .i64 k ∧ s = .int .i64 (sumI xs k) ∧ Hid (∀ j, j < k → 0 ≤ gi xs j ∧ gi xs j ≤ 20)) (fun _ _ i => xs.length - (intOf i).toNat)
  case atStart => exact ⟨0, by omega, rfl, rfl, fun j hj => absurd hj (by omega)⟩
  case round =>
    obtain ⟨k, hk, rfl, rfl, HD⟩ := hrel
    have hsr := sumI_rng (xs := xs) (n := k) (b := 20) HD.out (Nat.le_refl _)
    by_cases hlt : k < xs.length
    · obtain ⟨b, o, rfl, _, _, hcell, h64⟩ := hy.cell hlt
      have hk0 : (0 : Int) ≤ (k : Int) := by omega
      have hk1 : (k : Int) < (xs.length : Int) := by omega
      have HS := Lib.hid (show sumI xs (k + 1) = sumI xs k + gi xs k from rfl)
      have HNO := Lib.hid (show ¬ (0 ≤ gi xs k ∧ gi xs k ≤ 20) → R = false from fun hn => by
        rw [HR.out]
        cases hv : vWan W ws xs
        · rfl
        · exact absurd ((vWan_iff.1 hv).2.2.1 k hlt) hn)
      have HYES := Lib.hid (show 0 ≤ gi xs k ∧ gi xs k ≤ 20 → ∀ j, j < k + 1 → 0 ≤ gi xs j ∧ gi xs j ≤ 20 from fun hy j hj => by
        rcases Nat.lt_or_ge j k with h' | h'
        · exact HD.out j h'
        · obtain rfl : j = k := by omega
          exact hy)
      obtain ⟨x, hx⟩ : ∃ x, x = gi xs k := ⟨_, rfl⟩
      obtain ⟨s, hs⟩ : ∃ s, s = sumI xs k := ⟨_, rfl⟩
      rw [← hx] at hcell h64 HS HNO HYES
      rw [← hs] at hsr HS ⊢
      clear hx hs
      by_cases y1 : x < 0
      · have Hno := Lib.hid (HNO.out fun h => by omega)
        go_wp2
        go_ret
        exact ⟨ret_bool Hno.out.symm, rfl⟩
      by_cases y2 : 20 < x
      · have Hno := Lib.hid (HNO.out fun h => by omega)
        go_wp2
        go_ret
        exact ⟨ret_bool Hno.out.symm, rfl⟩
      · have HY2 := Lib.hid (HYES.out ⟨by omega, by omega⟩)
        clear HNO HYES
        go_wp2
        go_round
        case rel => exact ⟨k + 1, by omega, by go_num, by rw [HS.out], HY2.out⟩
        case measure => simp [intOf]; omega
    · have hke : k = xs.length := by omega
      have hni : ¬ (k : Int) < (xs.length : Int) := by omega
      have Hyes := Lib.hid (show R = decide (sumI xs k ≤ 60) by
        rw [HR.out, hke, sumI_all]
        have hall : allR 0 20 xs = true := allR_iff.2 fun i hi => HD.out i (by omega)
        unfold vWan
        rw [X1.out, decide_eq_true X2.out, hall]; rfl)
      obtain ⟨s, hs⟩ : ∃ s, s = sumI xs k := ⟨_, rfl⟩
      rw [← hs] at Hyes ⊢
      clear hs hke hsr
      go_wp2
      go_ret
      exact ⟨ret_bool Hyes.out.symm, rfl⟩
theorem sTotalG_any (lo hi : Nat) (v : Value) (xs : List Int) (w : World) (h : Ints w lo hi v xs) (hl : xs.length ≤ 1000) (hb : ∀ i, i < xs.length → 0 ≤ gi xs i ∧ gi xs i ≤ 1000) :
    Calls Tryz.prog 36 #[v] w fun e w' => e = .returned (.int .i64 (sumI xs xs.length)) ∧ w = w' := by
  obtain ⟨A, c, rfl, hc, hm⟩ := h.form
  have HB := Lib.hid hb
  clear hb
  go_enter Tryz.func36, Tryz.ntmps36
  go_wp2
  go_loop [3, 4] (fun s i => ∃ k : Nat, k ≤ xs.length ∧ i = .int .i64 k ∧ s = .int .i64 (sumI xs k)) (fun _ i => xs.length - (intOf i).toNat)
  case atStart => exact ⟨0, by omega, rfl, rfl⟩
  case round =>
    obtain ⟨k, hk, rfl, rfl⟩ := hrel
    by_cases hlt : k < xs.length
    · obtain ⟨b, o, rfl, _, _, hcell, _⟩ := h.cell hlt
      have hs := sumI_rng HB.out hk
      have hx := HB.out k hlt
      go_wp2
      go_round
      case rel => exact ⟨k + 1, by omega, by go_num, rfl⟩
      case measure => simp [intOf]; omega
    · have He := Lib.hid (show k = xs.length by omega)
      go_wp2
      go_ret
      exact ⟨ret_int (by rw [He.out]), rfl⟩
set_option maxHeartbeats 1000000 in
theorem validWants_any (lo hi l2 h2 : Nat) (W : Int) (v u : Value) (ws xs : List Int) (w : World) (h : Ints w lo hi v ws) (hy : Ints w l2 h2 u xs) :
    Calls Tryz.prog 35 #[.int .i64 W, v, u] w fun e w' => e = .returned (.bool (vWan W ws xs)) ∧ Qt w w' := by
  obtain ⟨A, c, rfl, hc, hm⟩ := h.form
  obtain ⟨B, d, rfl, hd, hm2⟩ := hy.form
  obtain ⟨R, hR⟩ : ∃ R, R = vWan W ws xs := ⟨_, rfl⟩
  rw [← hR]
  have HR := Lib.hid hR
  clear hR
  go_enter Tryz.func35, Tryz.ntmps35
  go_wp2_with fail
  refine (validWidths_any lo hi W _ ws w h).mono ?_
  rintro e w1 ⟨rfl, q⟩
  have HQ := Lib.hid q
  have HY := Lib.hid (hy.qt q)
  clear q
  cases x1 : vWid W ws
  · have Hno := Lib.hid (show R = false by rw [HR.out]; unfold vWan; rw [x1]; rfl)
    go_wp2
    go_ret
    exact ⟨ret_bool Hno.out.symm, HQ.out⟩
  by_cases x2 : xs.length = ws.length
  rotate_left
  · have Hno := Lib.hid (show R = false by rw [HR.out]; unfold vWan; rw [decide_eq_false x2]; simp)
    have e2 : ((xs.length : Int) == (ws.length : Int)) = false := beq_f (by omega)
    go_wp2
    go_ret
    exact ⟨ret_bool Hno.out.symm, HQ.out⟩
  have X2 := Lib.hid x2
  have X1 := Lib.hid x1
  have e2 : ((xs.length : Int) == (ws.length : Int)) = true := beq_t (by omega)
  have hxl : xs.length ≤ 6 := by have := (vWid_iff.1 x1).2.2.2.1; omega
  clear x1 x2
  go_wp2_with fail
  refine (allIn_any l2 h2 _ xs 0 20 w1 HY.out).mono ?_
  rintro e w2 ⟨rfl, hw2⟩
  subst hw2
  cases x3 : allR 0 20 xs
  · have Hno := Lib.hid (show R = false by rw [HR.out]; unfold vWan; rw [x3]; simp)
    go_wp2
    go_ret
    exact ⟨ret_bool Hno.out.symm, HQ.out⟩
  have HA := Lib.hid (allR_iff.1 x3)
  have Hyes := Lib.hid (show R = decide (sumI xs xs.length ≤ 60) by
    rw [HR.out, sumI_all]
    unfold vWan
    rw [X1.out, decide_eq_true X2.out, x3]; rfl)
  clear x3
  go_wp2_with fail
  refine (sTotalG_any l2 h2 _ xs w1 HY.out (by omega) (fun i hi => by have := HA.out i hi; omega)).mono ?_
  rintro e w2 ⟨rfl, hw2⟩
  subst hw2
  obtain ⟨s, hs⟩ : ∃ s, s = sumI xs xs.length := ⟨_, rfl⟩
  rw [← hs] at Hyes ⊢
  clear hs
  go_wp2
  go_ret
  exact ⟨ret_bool Hyes.out.symm, HQ.out⟩
end Go.Proofs.YtkgepklapglmdaaGreatDoor

namespace Go.Proofs.YtkgepklapglmdaaGreatDoor
open Go.RowKit
attribute [local go_sem ↓] Go.wp_at_zero Go.wp_at_succ

theorem idxI_len (K : List Nat) : (idxI K).length = K.length := by simp [idxI]
theorem gi_idxI {K : List Nat} {k : Nat} (hk : k < K.length) : gi (idxI K) k = ((K[k] : Nat) : Int) := by
  rw [gi_eq (by rw [idxI_len]; exact hk)]; simp [idxI]
theorem ordG_len {n : Nat} {K : List Nat} (h : OrdG n K) : K.length = n := by
  have hp : K.Perm (List.range n) := (List.perm_ext_iff_of_nodup h.1 List.nodup_range).2 fun a => (h.2 a).trans List.mem_range.symm
  rw [hp.length_eq, List.length_range]
theorem take_snd {W : Int} {ws l : List Int} {K : List Nat} (hw : ∀ i, i < ws.length → 1 ≤ gi ws i) (hW : 0 ≤ W) (hK : OrdG ws.length K) (hl : l.length = ws.length) (h0 : ∀ i, 0 ≤ gi l i) (k : Nat) : SndG W ws l (K.take k) ((K.take k).foldl (stepG ws) ⟨List.replicate ws.length 0, l, W⟩) := by
  have hs : (K.take k).Nodup := hK.1.sublist (List.take_sublist k K)
  have := foldG (W := W) (l0 := l) hw (K.take k) [] _ (by simpa using hs) (fun i hi => (hK.2 i).1 (List.mem_of_mem_take hi)) (SndG.start hW hl h0)
  simpa using this
theorem fold_snoc (ws : List Int) (K : List Nat) (s : Gs) {k : Nat} (hk : k < K.length) : (K.take (k + 1)).foldl (stepG ws) s = stepG ws ((K.take k).foldl (stepG ws) s) K[k] := by
  rw [List.take_succ_eq_append_getElem hk, List.foldl_append]; rfl
theorem room_le {W : Int} {ws l0 : List Int} {K' : List Nat} {s : Gs} (h : SndG W ws l0 K' s) (hw : ∀ i, i < ws.length → 1 ≤ gi ws i) : s.r ≤ W := by
  have h1 := used_nonneg (ws := ws) (cs := s.c) (n := ws.length) (fun i hi => ⟨h.c0 i, by have := hw i hi; omega⟩) (Nat.le_refl _)
  have h2 := h.rW
  omega
def lenG : Value → Nat
  | .slice _ n _ => n
  | _ => 0
set_option maxRecDepth 100000 in
set_option maxHeartbeats 8000000 in
theorem GreedySets_any (l1 h1 l2 h2 : Nat) (v u : Value) (W : Int) (ws xs : List Int) (w : World) (h : Ints w l1 h1 v ws) (hh1 : h1 ≤ w.heap.size) (hy : Ints w l2 h2 u xs) (hh2 : h2 ≤ w.heap.size) :
    Calls Tryz.prog 31 #[.int .i64 W, v, u] w fun e w' => ∃ v', e = .returned v' ∧ OwnR w' w.heap.size w'.heap.size 26 3 v' (gsL W ws xs) ∧ Below w.heap.size w w' := by
  have hmf : ∀ (fn : Fn) (first cap : Array Value) (w : World), (Instr.makeFunc fn first cap).run Tryz.prog w = .ok (.func fn first cap) w := fun _ _ _ _ => rfl
  obtain ⟨A, c, rfl, hc, hm⟩ := h.form
  obtain ⟨B, d, rfl, hd, hm2⟩ := hy.form
  have Hs := Lib.hid (show ∃ w1, w1 = (w.alloc (.cells #[.slice A ws.length c] 26)) ∧ Below w.heap.size w w1 ∧ w1.cell? ⟨w.heap.size, 0, none⟩ = some (.slice A ws.length c) ∧ Ints w1 l1 h1 (.slice A ws.length c) ws ∧ Ints w1 l2 h2 (.slice B xs.length d) xs ∧ w.heap.size < w1.heap.size from by
    have hb : Below w.heap.size w (w.alloc (.cells #[.slice A ws.length c] 26)) := (Below.refl _ _).alloc (Nat.le_refl _) _
    exact ⟨_, rfl, hb, by go_simp, h.below hb hh1, hy.below hb hh2, by simp⟩)
  go_enter Tryz.func31, Tryz.ntmps31
  go_wp2_with (fail)
  obtain ⟨w1, hw1, hb0, c00, hT0, hT1, hz⟩ := Hs.out
  rw [← hw1]
  clear hw1 Hs
  have HT0 := Lib.hid hT0
  have HT1 := Lib.hid hT1
  have HB1 := Lib.hid hb0
  clear hT0 hT1 h hy hb0
  refine (ValidWants_any l1 h1 l2 h2 W _ _ ws xs w1 HT0.out HT1.out).mono ?_
  rintro e x1 ⟨rfl, hx1⟩
  subst hx1
  cases hvw : vWan W ws xs
  · have HR := Lib.hid (show gsL W ws xs = [] by unfold gsL; rw [hvw]; simp)
    go_wp2
    go_ret
    exact ⟨_, rfl, by rw [HR.out]; exact OwnR.nil _ _ _ _ _, HB1.out⟩
  have hva := vWan_iff.1 hvw
  have hvd := vWid_iff.1 hva.1
  obtain ⟨n, hn⟩ : ∃ n, n = ws.length := ⟨_, rfl⟩
  have hn6 : n ≤ 6 := by omega
  have hn1 : 1 ≤ n := by omega
  have hW60 : W ≤ 60 := hvd.2.1
  have hW1 : 1 ≤ W := hvd.1
  have HV := Lib.hid hva.1
  have HN := Lib.hid hn
  have HXL := Lib.hid hva.2.1
  have HX0 := Lib.hid (show ∀ i, 0 ≤ gi xs i from gi_nn fun i hi => (hva.2.2.1 i hi).1)
  have HXS := Lib.hid hva.2.2.2
  have HWR := Lib.hid (show ∀ i, i < ws.length → 1 ≤ gi ws i ∧ gi ws i ≤ W from fun i hi => vWid_w hva.1 hi)
  have HGS := Lib.hid (show gsL W ws xs = grdL W ws (kOrd ws) xs by unfold gsL; rw [hvw, if_pos rfl])
  have HGL := Lib.hid (gsL_len W ws xs)
  have HKO := Lib.hid (kOrd_desc hva.1).1
  have HKL := Lib.hid (show (kOrd ws).length = ws.length from ordG_len (kOrd_desc hva.1).1)
  have hwn : (ws.length : Int) = (n : Int) := by omega
  clear hva hvd hvw hn
  go_wp2_with (at_make; refine wpList_makeI SlI _ rfl _ _ rfl w1.heap.size n rfl rfl (by omega) (Nat.le_refl _) ?_; intro w2 ho2 hb2 hs2)
  have CB := Lib.hid c00
  have HO0 := Lib.hid ho2
  have HB2 := Lib.hid hb2
  replace c00 := keepB hb2 c00
  clear ho2 hb2
  go_loopw [8, 26] (fun _ i wr => ∃ k : Nat, k ≤ n ∧ i = .int .i64 k ∧ OwnI wr w1.heap.size 3 (.slice (some ⟨w1.heap.size, 0, none⟩) n n) ((idxI (List.range n)).take k ++ (List.replicate n 0).drop k) ∧ Hid (Below w1.heap.size w1 wr) ∧ w1.heap.size < wr.heap.size) (fun _ i _ => n - (intOf i).toNat)
  case atStart => exact ⟨0, Nat.zero_le _, rfl, by simpa using HO0.out, HB2.out, hs2⟩
  case round =>
    obtain ⟨k, hk, rfl, hown, HBr, hzr⟩ := hrel
    clear HO0 HB2
    by_cases hlt : k < n
    · obtain ⟨g, hg, _, _, hc1, hf1, hst⟩ := hown.at_ (i := k) (by rw [List.length_append, List.length_take, List.length_drop, List.length_replicate, idxI_len, List.length_range]; omega)
      simp only [Option.some.injEq, Addr.mk.injEq, and_true] at hg
      subst hg
      have Hst := Lib.hid (hst (k : Int) ⟨by omega, by omega⟩)
      have hk0 : (0 : Int) ≤ (k : Int) := by omega
      have hk1 : (k : Int) < (n : Int) := by omega
      clear hst hown
      go_wp2
      go_roundw
      case rel =>
        have e := take_set_succ (idxI (List.range n)) (List.replicate n 0) k (by rw [idxI_len, List.length_range]; exact hlt) (by simpa using hlt)
        rw [gi_idxI (by simpa using hlt), List.getElem_range] at e
        exact ⟨k + 1, hlt, by go_num, by rw [← e]; exact Hst.out, HBr.out.setCell (p := ⟨w1.heap.size, k, none⟩) (Nat.le_refl _) _, by simpa [World.setCell] using hzr⟩
      case measure => simp [intOf]; omega
    have hke : k = n := by omega
    have hni : ¬ (k : Int) < (n : Int) := by omega
    have HK0 := Lib.hid (show OwnI wr w1.heap.size 3 (.slice (some ⟨w1.heap.size, 0, none⟩) n n) (idxI (List.range ws.length)) by
      rw [hke, List.drop_eq_nil_of_le (by simp), List.append_nil, List.take_of_length_le (by simp [idxI])] at hown
      rw [← HN.out]; exact hown)
    have cb : wr.cell? ⟨w.heap.size, 0, none⟩ = some (.slice A ws.length c) := keepC HBr.out (show w.heap.size < _ by omega) CB.out
    clear hown hke
    go_wp2_with fail
    refine (sortKinds_any w1.heap.size l1 h1 w.heap.size _ _ W ws wr HV.out HK0.out (by omega) (HT0.out.below HBr.out (by omega)) (by omega) cb (by omega)).mono ?_
    rintro e w3 ⟨rfl, ho3, hb3⟩
    have HZ1 := Lib.hid hzr
    have CB3 := Lib.hid (keepC hb3 (show w.heap.size < _ by omega) cb)
    have HWD := Lib.hid ((HT0.out.below HBr.out (by omega)).below hb3 (by omega))
    have HXS3 := Lib.hid ((HT1.out.below HBr.out (by omega)).below hb3 (by omega))
    have HB3 := Lib.hid (HB1.out.trans ((HBr.out.trans hb3).mono (by omega)))
    have HKI := Lib.hid ho3.ints
    have hz3 := hb3.size
    have hw13 : w.heap.size < w3.heap.size ∧ w1.heap.size < w3.heap.size := by omega
    obtain ⟨K, hKK⟩ : ∃ K, K = kOrd ws := ⟨_, rfl⟩
    rw [← hKK] at HGS HKO HKL HKI
    clear hKK cb ho3 hb3 hni hzr hz3 hk
    clear HBr HK0 HB1 CB
    go_wp2_with fail
    have hxn : xs.length = n := by have := HXL.out; have := HN.out; omega
    refine (clone_any _ _ _ xs w3 HXS3.out (by omega)).mono ?_
    rintro e w4 ⟨v4, rfl, ho4, hb4⟩
    obtain ⟨A4, d4, rfl, hd4, hd5⟩ := ho4.form
    obtain ⟨g, hg, hg3, hg4, _, _, _⟩ := ho4.at_ (i := 0) (by omega)
    subst hg
    rw [hxn] at ho4 hd4 ⊢
    have HL0 := Lib.hid ho4
    have HB4 := Lib.hid hb4
    have hz4 := hb4.size
    clear ho4 hb4 hxn
    go_wp2
    go_loopw [10, 11, 12, 14, 15] (fun o _ _ _ _ wr => ∃ (l : List Int) (out : List (List Int)), OwnR wr w4.heap.size wr.heap.size 26 3 o out ∧ Hid (OwnI wr w3.heap.size 3 (.slice (some ⟨g, 0, none⟩) n d4) l) ∧ Hid (Below w3.heap.size w3 wr) ∧ w4.heap.size ≤ wr.heap.size ∧ Hid (gsL W ws xs = out ++ grdL W ws K l ∧ l.length = ws.length ∧ (∀ i, 0 ≤ gi l i) ∧ l.sum ≤ 60)) (fun o _ _ _ _ _ => 61 - lenG o)
    case atStart => exact ⟨xs, [], OwnR.nil _ _ _ _ _, HL0.out, HB4.out, Nat.le_refl _, by show gsL W ws xs = [] ++ _ ∧ _; exact ⟨HGS.out, HXL.out, HX0.out, HXS.out⟩⟩
    case round =>
      obtain ⟨l, out, HO, HL, HBw, hzw, HD⟩ := hrel
      clear HL0 HB4
      obtain ⟨wo, rfl⟩ : ∃ wo : World, wo = wr := ⟨_, rfl⟩
      obtain ⟨Ao, co, rfl, hco, hco2⟩ := HO.form
      have HOo := Lib.hid HO
      clear HO
      have hln : l.length = n := by have := HD.out.2.1; have := HN.out; omega
      have hsum := sumI_all l
      have hpos := sumG_pos (ys := l) fun i _ => HD.out.2.2.1 i
      have hout : out.length + (grdL W ws K l).length ≤ 60 := by
        have := HGL.out
        rw [HD.out.1, List.length_append] at this
        exact this
      have hbd : ∀ i, i < l.length → 0 ≤ gi l i ∧ gi l i ≤ 1000 := fun i hi => ⟨HD.out.2.2.1 i, by have := hpos.2 i hi; have := HD.out.2.2.2; omega⟩
      have HP := Lib.hid hpos
      have HU := Lib.hid hout
      have HBD := Lib.hid hbd
      have HSU := Lib.hid hsum
      have HLN := Lib.hid hln
      have cbo : wo.cell? ⟨w.heap.size, 0, none⟩ = some (.slice A ws.length c) := keepC HBw.out (show w.heap.size < _ by omega) CB3.out
      clear hpos hbd hsum hout hln
      go_wp2_with fail
      refine (sumOf_any _ _ _ l wo HL.out.ints (by have := HLN.out; omega) HBD.out).mono ?_
      rintro e x1 ⟨rfl, hx1⟩
      subst hx1
      rw [HSU.out]
      obtain ⟨sm, hsm⟩ : ∃ s, s = l.sum := ⟨_, rfl⟩
      rw [← hsm]
      have HSM := Lib.hid hsm
      clear hsm
      by_cases hs0 : 0 < sm
      rotate_left
      · have hs1 : ¬ sm > 0 := hs0
        have HR := Lib.hid (show OwnR wo w.heap.size wo.heap.size 26 3 (.slice Ao out.length co) (gsL W ws xs) by
          have e : gsL W ws xs = out := by rw [HD.out.1, grdL_end (by rw [← HSM.out]; exact hs0), List.append_nil]
          rw [e]; exact HOo.out.wide (by omega) (Nat.le_refl _))
        have HBz := Lib.hid (HB3.out.trans (HBw.out.mono (by omega)))
        go_wp2
        go_ret
        exact ⟨_, rfl, HR.out, HBz.out⟩
      have hs1 : sm > 0 := hs0
      have HST := Lib.hid (grdL_step (W := W) (ws := ws) (K := K) HWR.out (by omega) HKO.out HD.out.2.1 HD.out.2.2.1 (by rw [← HSM.out]; exact hs0))
      go_wp2_with (at_make; refine wpList_makeI SlI _ rfl _ _ rfl wo.heap.size n rfl rfl (by omega) (Nat.le_refl _) ?_; intro w5 ho5 hb5 hs5)
      have HL5 := Lib.hid (HL.out.keptBlock (w' := w5) fun g' hg' => hb5.block g' (by simp [Value.ownBlock] at hg'; omega))
      have HC5 := Lib.hid ho5
      have HO5 := Lib.hid (HOo.out.kept (w' := w5) (.of_below hb5 (Nat.le_refl _)))
      have HB5 := Lib.hid (HBw.out.trans (hb5.mono (by omega)))
      clear ho5 hb5 cbo
      go_loopw [12, 14, 15, 48] (fun r _ _ i wx => ∃ j : Nat, j ≤ n ∧ i = .int .i64 j ∧ r = .int .i64 ((K.take j).foldl (stepG ws) ⟨List.replicate ws.length 0, l, W⟩).r ∧ Hid (OwnI wx w3.heap.size 3 (.slice (some ⟨g, 0, none⟩) n d4) ((K.take j).foldl (stepG ws) ⟨List.replicate ws.length 0, l, W⟩).l) ∧ Hid (OwnI wx wo.heap.size 3 (.slice (some ⟨wo.heap.size, 0, none⟩) n n) ((K.take j).foldl (stepG ws) ⟨List.replicate ws.length 0, l, W⟩).c) ∧ Hid (OwnR wx w4.heap.size wo.heap.size 26 3 (.slice Ao out.length co) out) ∧ Hid (Below w3.heap.size w3 wx) ∧ wo.heap.size < wx.heap.size) (fun _ _ _ i _ => n - (intOf i).toNat)
      case atStart => exact ⟨0, Nat.zero_le _, rfl, rfl, HL5.out, by have := HC5.out; show OwnI _ _ _ _ (List.replicate ws.length 0); rw [← HN.out]; exact this, HO5.out, HB5.out, hs5⟩
      case round =>
        obtain ⟨j, hj, rfl, rfl, HLi, HCi, HOi, HBi, hzi⟩ := hrel
        clear HL5 HC5 HO5 HB5
        obtain ⟨wx, rfl⟩ : ∃ wx : World, wx = wr := ⟨_, rfl⟩
        have hSn := take_snd (W := W) (ws := ws) (l := l) (K := K) (fun i hi => (HWR.out i hi).1) (by omega) HKO.out HD.out.2.1 HD.out.2.2.1 j
        obtain ⟨s, hs⟩ : ∃ s, s = (K.take j).foldl (stepG ws) ⟨List.replicate ws.length 0, l, W⟩ := ⟨_, rfl⟩
        rw [← hs] at hSn HLi HCi ⊢
        have HSN := Lib.hid hSn
        have HS := Lib.hid hs
        clear hSn hs
        have hsl : s.l.length = n := by have := HSN.out.ll; have := HN.out; omega
        have hsc : s.c.length = n := by have := HSN.out.cl; have := HN.out; omega
        have HSL := Lib.hid hsl
        have HSC := Lib.hid hsc
        clear hsl hsc
        by_cases hlt : j < n
        rotate_left
        · have hnj : ¬ (j : Int) < (n : Int) := by omega
          have HJ := Lib.hid (show s = patG W ws K l by
            rw [HS.out, List.take_of_length_le (by have := HKL.out; have := HN.out; omega)]; rfl)
          have hol : out.length ≤ 60 := by have := HU.out; omega
          go_wp2_with (at_builtin; refine wpList_appendR SlR (by decide) _ rfl (.tmp 83) (.tmp 85) rfl _ _ _ w4.heap.size wo.heap.size _ _ s.c rfl rfl HOi.out HCi.out (by omega) hzw (by omega) ?_; intro v6 w6 ho6 hg6; have HO6 := Lib.hid ho6; have HL6 := Lib.hid (HLi.out.keptBlock (w' := w6) fun g' hg' => hg6.below.block g' (by simp [Value.ownBlock] at hg'; omega)); have HB6 := Lib.hid (HBi.out.trans (hg6.below.mono (by omega))); have hz6 := hg6.below.size; clear ho6 hg6)
          have hfo := HO6.out.form
          obtain ⟨A6, c6, rfl, _, _⟩ := hfo
          go_roundw
          case rel =>
            refine ⟨s.l, out ++ [s.c], HO6.out, HL6.out, HB6.out, by omega, ?_⟩
            show gsL W ws xs = _ ∧ _
            have hp := pat_some (W := W) (ws := ws) (l := l) (K := K) HWR.out (by omega) HKO.out HD.out.2.1 HD.out.2.2.1 (by rw [← HSM.out]; exact hs0)
            have h60 := HD.out.2.2.2
            rw [← HJ.out] at hp
            refine ⟨?_, HSN.out.ll, HSN.out.l0', by omega⟩
            rw [HD.out.1, HST.out, ← HJ.out, List.append_assoc]; rfl
          case measure =>
            have h1 := HU.out
            rw [HST.out, List.length_cons] at h1
            simp [lenG]; omega
        have hjK : j < K.length := by have := HKL.out; have := HN.out; omega
        obtain ⟨kk, hkk⟩ : ∃ k, k = K[j] := ⟨_, rfl⟩
        have hkn : kk < n := by have := (HKO.out.2 K[j]).1 (List.getElem_mem hjK); have := HN.out; omega
        have ck := (HKI.out.below HBi.out (Nat.le_refl _)).cell' (k := j) (by rw [idxI_len]; exact hjK)
        rw [Nat.zero_add, gi_idxI hjK, ← hkk] at ck
        obtain ⟨b, o, hA, hbl, hbh, ca, _⟩ := (HWD.out.below HBi.out (by omega)).cell (k := kk) (by have := HN.out; omega)
        subst hA
        have cbx : wx.cell? ⟨w.heap.size, 0, none⟩ = some (.slice (some ⟨b, o, none⟩) ws.length c) := keepC HBi.out (show w.heap.size < _ by omega) CB3.out
        obtain ⟨g1, hg1, _, _, cl, fl, _⟩ := HLi.out.at_ (i := kk) (by have := HSL.out; omega)
        obtain ⟨g2, hg2, _, _, cc, fc, _⟩ := HCi.out.at_ (i := kk) (by have := HSC.out; omega)
        simp only [Option.some.injEq, Addr.mk.injEq, and_true] at hg1 hg2
        subst hg1 hg2
        have hwk := HWR.out kk (by have := HN.out; omega)
        have hak : 0 ≤ gi s.l kk ∧ gi s.l kk ≤ 60 := by
          have h1 := HSN.out.l0' kk
          have h2 := HSN.out.c0 kk
          have h3 := HSN.out.sum kk
          have h4 := HP.out.2 kk (by have := HLN.out; omega)
          have h5 := HD.out.2.2.2
          omega
        have hrk : 0 ≤ s.r ∧ s.r ≤ W := ⟨HSN.out.r0, room_le HSN.out fun i hi => (HWR.out i hi).1⟩
        have hF := fold_snoc ws K ⟨List.replicate ws.length 0, l, W⟩ hjK
        rw [← HS.out, ← hkk] at hF
        obtain ⟨a, ha⟩ : ∃ a, a = gi s.l kk := ⟨_, rfl⟩
        obtain ⟨bw, hbw⟩ : ∃ a, a = gi ws kk := ⟨_, rfl⟩
        obtain ⟨r, hr⟩ : ∃ a, a = s.r := ⟨_, rfl⟩
        rw [← ha] at cl hak
        rw [← hbw] at ca hwk
        rw [← hr] at hrk ⊢
        obtain ⟨q, hq⟩ : ∃ q, q = r / bw := ⟨_, rfl⟩
        have hq0 : 0 ≤ q := by rw [hq]; exact Int.ediv_nonneg (by omega) (by omega)
        have hq1 : q ≤ 60 := by rw [hq]; exact Int.le_trans (Int.ediv_le_self _ (by omega)) (by omega)
        have hqm : q * bw ≤ r := by rw [hq]; exact Int.ediv_mul_le _ (by omega)
        have hqt : r.tdiv bw = q := by rw [hq]; exact Int.tdiv_eq_ediv_of_nonneg (by omega)
        have hqe : r / bw = q := hq.symm
        obtain ⟨m, hm⟩ : ∃ m, m = min a q := ⟨_, rfl⟩
        have hmin : min a q = m := hm.symm
        have hm0 : 0 ≤ m ∧ m ≤ a ∧ m ≤ q := by omega
        obtain ⟨p, hp⟩ : ∃ p, p = m * bw := ⟨_, rfl⟩
        have hp1 : p ≤ r := by rw [hp]; exact Int.le_trans (Int.mul_le_mul_of_nonneg_right hm0.2.2 (by omega)) hqm
        have hp0 : 0 ≤ p := by rw [hp]; exact Int.mul_nonneg hm0.1 (by omega)
        have HG := Lib.hid (show (K.take (j + 1)).foldl (stepG ws) ⟨List.replicate ws.length 0, l, W⟩ = ⟨s.c.set kk m, s.l.set kk (a - m), r - p⟩ by rw [hF, hp, hm, hq, ha, hbw, hr]; rfl)
        have gq : IntKind.i64.wrap q = q := IntWalk.i64_in _ (by omega)
        have gm : IntKind.i64.wrap (a - m) = a - m := IntWalk.i64_in _ (by omega)
        have gp : IntKind.i64.wrap p = p := IntWalk.i64_in _ (by omega)
        have gr : IntKind.i64.wrap (r - p) = r - p := IntWalk.i64_in _ (by omega)
        have hpe : m * bw = p := hp.symm
        have hbz : ¬ bw = 0 := by omega
        have j0 : (0 : Int) ≤ (j : Int) := by omega
        have j1 : (j : Int) < (n : Int) := by omega
        have k0 : (0 : Int) ≤ (kk : Int) := by omega
        have k1 : (kk : Int) < (n : Int) := by omega
        have hb0 : 1 ≤ bw := by omega
        have HMI := Lib.hid (show I64 m ∧ I64 (a - m) from ⟨⟨by omega, by omega⟩, ⟨by omega, by omega⟩⟩)
        have hzA : b < w.heap.size ∧ w.heap.size < g ∧ g < wo.heap.size := by omega
        clear ha hbw hr hq hm hp hF hkk hak hwk hrk hqm hq0 hq1 hm0 hp1 hp0 hbl hbh
        go_wp2
        refine wp_region_held_drew (S := fun w' => w'.cell? ⟨w.heap.size, 0, none⟩ = some (.slice (some ⟨b, o, none⟩) ws.length c) ∧ w'.cell? ⟨b, o + kk, none⟩ = some (.int .i64 bw) ∧ w'.cell? ⟨g, kk, none⟩ = some (.int .i64 a)) (by kernel_rfl) ?_ (fun hHeld => ?_)
        · (first | (try dsimp only); go_keep | (go_split_ands; refine ⟨?_, ?_, ?_⟩ <;> first | assumption))
        refine tkW 0 52 rfl rfl (by kernel_rfl) hHeld (by intro w hSw; (try dsimp only at hSw); go_simp; try with_reducible rfl) ?_ (fun _ _ _ h => h)
        simp only [Act.put, lyA, lyB, lyC]
        refine tkW 1 53 rfl rfl (by kernel_rfl) hHeld (by intro w hSw; (try dsimp only at hSw); go_simp; try with_reducible rfl) ?_ (fun _ _ _ h => h)
        simp only [Act.put, lyA, lyB, lyC]
        refine tkW 2 54 rfl rfl (by kernel_rfl) hHeld (by intro w hSw; (try dsimp only at hSw); go_simp; try with_reducible rfl) ?_ (fun _ _ _ h => h)
        simp only [Act.put, lyA, lyB, lyC]
        refine tkW 3 55 rfl rfl (by kernel_rfl) hHeld (by intro w hSw; (try dsimp only at hSw); go_simp; try with_reducible rfl) ?_ (fun _ _ _ h => h)
        simp only [Act.put, lyA, lyB, lyC]
        refine tkW 4 56 rfl rfl (by kernel_rfl) hHeld (by intro w hSw; (try dsimp only at hSw); go_simp; try with_reducible rfl) ?_ (fun _ _ _ h => h)
        simp only [Act.put, lyA, lyB, lyC]
        refine tkW 5 57 rfl rfl (by kernel_rfl) hHeld (by intro w hSw; (try dsimp only at hSw); go_simp; try with_reducible rfl) ?_ (fun _ _ _ h => h)
        simp only [Act.put, lyA, lyB, lyC]
        refine tkW 6 58 rfl rfl (by kernel_rfl) hHeld (by intro w hSw; (try dsimp only at hSw); go_simp; try with_reducible rfl) ?_ (fun _ _ _ h => h)
        simp only [Act.put, lyA, lyB, lyC]
        refine tkW 7 59 rfl rfl (by kernel_rfl) hHeld (by intro w hSw; (try dsimp only at hSw); go_simp; try with_reducible rfl) ?_ (fun _ _ _ h => h)
        simp only [Act.put, lyA, lyB, lyC]
        refine tkW 8 60 rfl rfl (by kernel_rfl) hHeld (by intro w hSw; (try dsimp only at hSw); go_simp; try with_reducible rfl) ?_ (fun _ _ _ h => h)
        simp only [Act.put, lyA, lyB, lyC]
        refine tkW 9 61 rfl rfl (by kernel_rfl) hHeld (by intro w hSw; (try dsimp only at hSw); go_simp; try with_reducible rfl) ?_ (fun _ _ _ h => h)
        simp only [Act.put, lyA, lyB, lyC]
        refine tkW 10 62 rfl rfl (by kernel_rfl) hHeld (by intro w hSw; (try dsimp only at hSw); go_simp; try with_reducible rfl) ?_ (fun _ _ _ h => h)
        simp only [Act.put, lyA, lyB, lyC]
        refine tkW 11 15 rfl rfl (by kernel_rfl) hHeld (by intro w hSw; (try dsimp only at hSw); go_simp; try with_reducible rfl) ?_ (fun _ _ _ h => h)
        simp only [Act.put, lyA, lyB, lyC]
        refine wpAnyH_done (by kernel_rfl) ?_ _
        clear hHeld
        clear hmin hqt hqe gq
        obtain ⟨wd, hwd⟩ : ∃ wd, wd = wx.drew := ⟨_, rfl⟩
        have HLd := Lib.hid (show OwnI wd w3.heap.size 3 (.slice (some ⟨g, 0, none⟩) n d4) s.l by rw [hwd]; exact HLi.out.drew)
        have HCd := Lib.hid (show OwnI wd wo.heap.size 3 (.slice (some ⟨wo.heap.size, 0, none⟩) n n) s.c by rw [hwd]; exact HCi.out.drew)
        have HOd := Lib.hid (show OwnR wd w4.heap.size wo.heap.size 26 3 (.slice Ao out.length co) out by rw [hwd]; exact HOi.out)
        have HBd := Lib.hid (show Below w3.heap.size w3 wd by rw [hwd]; exact HBi.out.drew)
        have hzd : wo.heap.size < wd.heap.size := by rw [hwd]; exact hzi
        replace cl : wd.cell? ⟨g, kk, none⟩ = some (.int .i64 a) := by rw [hwd]; exact cl
        replace fl : wd.frozen? ⟨g, kk, none⟩ = false := by rw [hwd]; exact fl
        replace cc : wd.cell? ⟨wo.heap.size, kk, none⟩ = some (.int .i64 (gi s.c kk)) := by rw [hwd]; exact cc
        replace fc : wd.frozen? ⟨wo.heap.size, kk, none⟩ = false := by rw [hwd]; exact fc
        replace ca : wd.cell? ⟨b, o + kk, none⟩ = some (.int .i64 bw) := by rw [hwd]; exact ca
        replace cbx : wd.cell? ⟨w.heap.size, 0, none⟩ = some (.slice (some ⟨b, o, none⟩) ws.length c) := by rw [hwd]; exact cbx
        rw [← hwd]
        clear hwd HLi HCi HOi HBi hzi ck
        obtain ⟨wy, hwy⟩ : ∃ wy, wy = (wd.setCell ⟨wo.heap.size, kk, none⟩ (.int .i64 m)).setCell ⟨g, kk, none⟩ (.int .i64 (a - m)) := ⟨_, rfl⟩
        have HL2 := Lib.hid (show OwnI wy w3.heap.size 3 (.slice (some ⟨g, 0, none⟩) n d4) (s.l.set kk (a - m)) by
          rw [hwy]
          exact (HLd.out.keptBlock (w' := wd.setCell ⟨wo.heap.size, kk, none⟩ (.int .i64 m)) fun g' hg' => Below.heap_setCell _ _ _ _ (by simp [Value.ownBlock] at hg'; show g' ≠ wo.heap.size; omega)).setI kk HMI.out.2)
        have HC2 := Lib.hid (show OwnI wy wo.heap.size 3 (.slice (some ⟨wo.heap.size, 0, none⟩) n n) (s.c.set kk m) by
          rw [hwy]
          exact (HCd.out.setI kk HMI.out.1).keptBlock fun g' hg' => Below.heap_setCell _ _ _ _ (by simp [Value.ownBlock] at hg'; show g' ≠ g; omega))
        have HO2 := Lib.hid (show OwnR wy w4.heap.size wo.heap.size 26 3 (.slice Ao out.length co) out by
          rw [hwy]
          exact (HOd.out.kept fun k _ hk => Below.heap_setCell _ _ _ _ (show k ≠ wo.heap.size by omega)).kept fun k hk _ => Below.heap_setCell _ _ _ _ (show k ≠ g by omega))
        have HB2 := Lib.hid (show Below w3.heap.size w3 wy by
          rw [hwy]
          exact (HBd.out.setCell (p := ⟨wo.heap.size, kk, none⟩) (show w3.heap.size ≤ wo.heap.size by omega) _).setCell (p := ⟨g, kk, none⟩) (show w3.heap.size ≤ g by omega) _)
        have HZ2 := Lib.hid (show wo.heap.size < wy.heap.size by rw [hwy]; simpa [World.setCell] using hzd)
        have HWY := Lib.hid hwy
        have n1 : ¬ g = wo.heap.size := by omega
        have n2 : ¬ wo.heap.size = g := by omega
        have n3 : ¬ w.heap.size = wo.heap.size := by omega
        have n4 : ¬ w.heap.size = g := by omega
        have n5 : ¬ b = wo.heap.size := by omega
        have n6 : ¬ b = g := by omega
        have n7 : ¬ wo.heap.size = w.heap.size := by omega
        have n8 : ¬ g = w.heap.size := by omega
        have n9 : ¬ wo.heap.size = b := by omega
        have n10 : ¬ g = b := by omega
        clear hwy HLd HCd HOd HBd
        go_wp2
        go_roundw
        case rel =>
          rw [← HWY.out]
          exact ⟨j + 1, by omega, by go_num, by rw [HG.out], by rw [HG.out]; exact HL2.out, by rw [HG.out]; exact HC2.out, HO2.out, HB2.out, HZ2.out⟩
        case measure => simp [intOf]; omega
end Go.Proofs.YtkgepklapglmdaaGreatDoor
