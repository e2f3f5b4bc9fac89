/-
  Lemmas and contracts of single functions of this program, used by the proofs of its laws: what each call returns and what becomes of memory. Conditions: the hypotheses of each theorem.
-/
import Derived.Test.YteckjiaaikdghaaPriP
import Derived.Test.YteckjiaaikdghaaRegLast
namespace Go.Proofs.Yteckjiaaikdghaa
open Go.RowKit
attribute [local go_sem ↓] Go.wp_at_zero Go.wp_at_succ

theorem vVal_no1 {W : Int} {ws vs : List Int} (h : vWid W ws = false) : vVal W ws vs = false := by unfold vVal; rw [h]; rfl
theorem vVal_no2 {W : Int} {ws vs : List Int} (h : ¬ vs.length = ws.length) : vVal W ws vs = false := by unfold vVal; rw [decide_eq_false h]; simp
theorem vVal_no3 {W : Int} {ws vs : List Int} {i : Nat} (hi : i < vs.length) (h : ¬ (0 ≤ gi vs i ∧ gi vs i ≤ 100)) : vVal W ws vs = false := by unfold vVal; rw [allR_no hi h]; simp
set_option maxHeartbeats 1000000 in
theorem validValuesI_any (lo hi l2 h2 : Nat) (W : Int) (v u : Value) (ws xs : List Int) (w : World) (h : Ints w lo hi v ws) (hy : Ints w l2 h2 u xs) :
    Calls Try.prog 82 #[.int .i64 W, v, u] w fun e w' => e = .returned (.bool (vVal W ws xs)) ∧ w = w' := by
  obtain ⟨A, c, rfl, hc, hm⟩ := h.form
  obtain ⟨B, d, rfl, hd, hm2⟩ := hy.form
  obtain ⟨R, hR⟩ : ∃ R, R = vVal W ws xs := ⟨_, rfl⟩
  rw [← hR]
  have HR := Lib.hid hR
  clear hR
  go_enter Try.func82, Try.ntmps82
  go_wp2_with fail
  refine (ValidWidths_any lo hi W _ ws w h).mono ?_
  rintro e w1 ⟨rfl, hw1⟩
  subst hw1
  cases x1 : vWid W ws
  · have Hno := Lib.hid (show R = false by rw [HR.out]; exact vVal_no1 x1)
    go_wp2
    go_ret
    exact ⟨ret_bool Hno.out.symm, rfl⟩
  by_cases x2 : xs.length = ws.length
  rotate_left
  · have Hno := Lib.hid (show R = false by rw [HR.out]; exact vVal_no2 x2)
    have e2 : ((xs.length : Int) != (ws.length : Int)) = true := bne_t (by omega)
    go_wp2
    go_ret
    exact ⟨ret_bool Hno.out.symm, rfl⟩
  have X2 := Lib.hid x2
  have X1 := Lib.hid x1
  have e2 : ((xs.length : Int) != (ws.length : Int)) = false := bne_f (by omega)
  have hxl : xs.length ≤ 6 := by have := (vWid_iff.1 x1).2.2.2.1; omega
  clear x1 x2
  go_wp2
  clear e2
  go_loop [8, 22] (fun _ i => ∃ k : Nat, k ≤ xs.length ∧ i = .int .i64 k ∧ Hid (∀ j, j < k → 0 ≤ gi xs j ∧ gi xs j ≤ 100)) (fun _ i => xs.length - (intOf i).toNat)
  case atStart => exact ⟨0, by omega, rfl, fun j hj => absurd hj (by omega)⟩
  case round =>
    obtain ⟨k, hk, rfl, HD⟩ := hrel
    by_cases hlt : k < xs.length
    · obtain ⟨b, o, rfl, _, _, hcell, h64⟩ := hy.cell hlt
      have hk0 : (0 : Int) ≤ (k : Int) := by omega
      have hk1 : (k : Int) < (xs.length : Int) := by omega
      have HNO := Lib.hid (show ¬ (0 ≤ gi xs k ∧ gi xs k ≤ 100) → R = false from fun hn => by rw [HR.out]; exact vVal_no3 hlt hn)
      have HYES := Lib.hid (show 0 ≤ gi xs k ∧ gi xs k ≤ 100 → ∀ j, j < k + 1 → 0 ≤ gi xs j ∧ gi xs j ≤ 100 from fun hy j hj => by
        rcases Nat.lt_or_ge j k with h' | h'
        · exact HD.out j h'
        · obtain rfl : j = k := by omega
          exact hy)
      obtain ⟨x, hx⟩ : ∃ x, x = gi xs k := ⟨_, rfl⟩
      rw [← hx] at hcell h64 HNO HYES
      clear hx
      by_cases y1 : x < 0
      · have Hno := Lib.hid (HNO.out fun h => by omega)
        go_wp2
        go_ret
        exact ⟨ret_bool Hno.out.symm, rfl⟩
      by_cases y2 : 100 < x
      · have Hno := Lib.hid (HNO.out fun h => by omega)
        go_wp2
        go_ret
        exact ⟨ret_bool Hno.out.symm, rfl⟩
      · have HY2 := Lib.hid (HYES.out ⟨by omega, by omega⟩)
        clear HNO HYES
        go_wp2
        go_round
        case rel => exact ⟨k + 1, by omega, by go_num, HY2.out⟩
        case measure => simp [intOf]; omega
    · have hke : k = xs.length := by omega
      have hni : ¬ (k : Int) < (xs.length : Int) := by omega
      have Hyes := Lib.hid (show R = true by
        rw [HR.out]
        exact vVal_iff.2 ⟨X1.out, X2.out, fun i hi => HD.out i (by omega)⟩)
      clear hke
      go_wp2
      go_ret
      exact ⟨ret_bool Hyes.out.symm, rfl⟩
set_option maxHeartbeats 1000000 in
theorem validValuesS_any (lo hi l2 h2 : Nat) (W : Int) (v u : Value) (ws xs : List Int) (w : World) (h : Ints w lo hi v ws) (hy : Ints w l2 h2 u xs) :
    Calls Try.prog 84 #[.int .i64 W, v, u] w fun e w' => e = .returned (.bool (vVal W ws xs)) ∧ Qt w w' := by
  obtain ⟨A, c, rfl, hc, hm⟩ := h.form
  obtain ⟨B, d, rfl, hd, hm2⟩ := hy.form
  obtain ⟨R, hR⟩ : ∃ R, R = vVal W ws xs := ⟨_, rfl⟩
  rw [← hR]
  have HR := Lib.hid hR
  clear hR
  go_enter Try.func84, Try.ntmps84
  go_wp2_with fail
  refine (validWidths_any lo hi W _ ws w h).mono ?_
  rintro e w1 ⟨rfl, q⟩
  have HQ := Lib.hid q
  have HY := Lib.hid (hy.qt q)
  clear q
  cases x1 : vWid W ws
  · have Hno := Lib.hid (show R = false by rw [HR.out]; exact vVal_no1 x1)
    go_wp2
    go_ret
    exact ⟨ret_bool Hno.out.symm, HQ.out⟩
  by_cases x2 : xs.length = ws.length
  rotate_left
  · have Hno := Lib.hid (show R = false by rw [HR.out]; exact vVal_no2 x2)
    have e2 : ((xs.length : Int) == (ws.length : Int)) = false := beq_f (by omega)
    go_wp2
    go_ret
    exact ⟨ret_bool Hno.out.symm, HQ.out⟩
  have X2 := Lib.hid x2
  have X1 := Lib.hid x1
  have e2 : ((xs.length : Int) == (ws.length : Int)) = true := beq_t (by omega)
  have hxl : xs.length ≤ 6 := by have := (vWid_iff.1 x1).2.2.2.1; omega
  clear x1 x2
  go_wp2_with fail
  refine (allIn_any l2 h2 _ xs 0 100 w1 HY.out).mono ?_
  rintro e w2 ⟨rfl, hw2⟩
  subst hw2
  have Hyes := Lib.hid (show R = allR 0 100 xs by
    rw [HR.out]; unfold vVal; rw [X1.out, decide_eq_true X2.out]; rfl)
  obtain ⟨z, hz⟩ : ∃ z, z = allR 0 100 xs := ⟨_, rfl⟩
  rw [← hz] at Hyes ⊢
  clear hz
  go_wp2
  go_ret
  exact ⟨ret_bool Hyes.out.symm, HQ.out⟩
theorem tbB_range (ws vs : List Int) (n : Nat) : tbB ws vs n = (List.range n).map (bvl ws vs) := by
  apply List.ext_getElem
  · simp [tbB_len]
  · intro i h1 h2
    have hi : i < n := by simpa using h2
    simp only [List.getElem_map, List.getElem_range]
    rw [← tbB_gi (m := n) hi, gi_eq h1]
set_option maxRecDepth 100000 in
set_option maxHeartbeats 4000000 in
theorem bestValues_any (l1 h1 l2 h2 n : Nat) (v u : Value) (ws vs : List Int) (w : World) (hv : vVal n ws vs = true) (h : Ints w l1 h1 v ws) (hh1 : h1 ≤ w.heap.size) (hy : Ints w l2 h2 u vs) (hh2 : h2 ≤ w.heap.size) :
    Calls Try.prog 110 #[.int .i64 n, v, u] w fun e w' => ∃ v', e = .returned v' ∧ OwnI w' w.heap.size 3 v' ((List.range (n + 1)).map (bvl ws vs)) ∧ Below w.heap.size w w' := by
  obtain ⟨A, c, rfl, hc, hm⟩ := h.form
  obtain ⟨B, d, rfl, hd, hm2⟩ := hy.form
  obtain ⟨hvw, hvl, hvr⟩ := vVal_iff.1 hv
  have hvd := vWid_iff.1 hvw
  have hn60 : n ≤ 60 := by omega
  have hn1 : 1 ≤ n := by omega
  have hws6 : ws.length ≤ 6 := hvd.2.2.2.1
  have HWS := Lib.hid (show ∀ i, i < ws.length → 1 ≤ gi ws i ∧ gi ws i ≤ n from fun i hi => vWid_w hvw hi)
  have HW1 := Lib.hid (show ∀ i, i < ws.length → 1 ≤ gi ws i from fun i hi => (vWid_w hvw hi).1)
  have HVS := Lib.hid (show ∀ i, i < ws.length → 0 ≤ gi vs i ∧ gi vs i ≤ 100 from fun i hi => hvr i (by omega))
  have HB := Lib.hid (show ∀ r, 0 ≤ bvl ws vs r ∧ bvl ws vs r ≤ 100 * r from fun r => bvl_100 HW1.out HVS.out r)
  have HI := Lib.hid (show ∀ r m, r ≤ 60 → m ≤ ws.length → 0 ≤ inF ws vs (bvl ws vs) r m ∧ inF ws vs (bvl ws vs) r m ≤ 10000 from fun r m hr hm => ⟨inF_nn m, inF_le (by omega) fun i hi h9 => by
    have h1 := HVS.out i (by omega)
    have h2 := (HB.out (r - (gi ws i).toNat)).2
    omega⟩)
  have HH := Lib.hid h
  have HY := Lib.hid hy
  have HVL := Lib.hid hvl
  have gn : IntKind.i64.wrap ((n : Int) + 1) = (n : Int) + 1 := IntWalk.i64_in _ (by omega)
  have GN2 := Lib.hid (show (n : Int) + 1 = ((n + 1 : Nat) : Int) by omega)
  clear hv hvw hvl hvr hvd h hy
  obtain ⟨RR, hRR⟩ : ∃ R, R = (List.range (n + 1)).map (bvl ws vs) := ⟨_, rfl⟩
  rw [← hRR]
  have HRR := Lib.hid hRR
  clear hRR
  go_enter Try.func110, Try.ntmps110
  go_wp2_with (at_make; rw [GN2.out]; refine wpList_makeI SlI _ rfl _ _ rfl w.heap.size (n + 1) rfl rfl (by omega) (Nat.le_refl _) ?_; intro w2 ho2 hb2 hs2)
  have HO0 := Lib.hid ho2
  have HB0 := Lib.hid hb2
  clear ho2 hb2
  go_wp2
  go_loopw [8, 9, 10] (fun i _ _ wr => ∃ k : Nat, 1 ≤ k ∧ k ≤ n + 1 ∧ i = .int .i64 k ∧ Hid (OwnI wr w.heap.size 3 (.slice (some ⟨w.heap.size, 0, none⟩) (n + 1) (n + 1)) ((List.range (n + 1)).map fun j => if j < k then bvl ws vs j else 0)) ∧ Hid (Below w.heap.size w wr)) (fun i _ _ _ => n + 1 - (intOf i).toNat)
  case atStart => exact ⟨1, Nat.le_refl _, by omega, rfl, by
    have e : List.replicate (n + 1) (0 : Int) = (List.range (n + 1)).map fun j => if j < 1 then bvl ws vs j else 0 := by
      apply List.ext_getElem
      · simp
      · intro i h1 h2
        simp only [List.getElem_replicate, List.getElem_map, List.getElem_range]
        split
        · obtain rfl : i = 0 := by omega
          have := HB.out 0; omega
        · rfl
    rw [← e]; exact HO0.out, HB0.out⟩
  case round =>
    obtain ⟨k, hk1, hk, rfl, HO, HBr⟩ := hrel
    clear HO0 HB0
    by_cases hlt : k ≤ n
    rotate_left
    · have hnk : ¬ (k : Int) ≤ (n : Int) := by omega
      have HR := Lib.hid (show OwnI wr w.heap.size 3 (.slice (some ⟨w.heap.size, 0, none⟩) (n + 1) (n + 1)) RR by
        rw [HRR.out]
        have e : ((List.range (n + 1)).map fun j => if j < k then bvl ws vs j else 0) = (List.range (n + 1)).map (bvl ws vs) := List.map_congr_left fun i hi => by
          have := List.mem_range.1 hi
          rw [if_pos (by omega)]
        rw [← e]; exact HO.out)
      go_wp2
      go_ret
      exact ⟨_, rfl, HR.out, HBr.out⟩
    have hlt1 : (k : Int) ≤ (n : Int) := by omega
    go_wp2
    go_loopw [9, 10, 21] (fun _ _ i wx => ∃ m : Nat, m ≤ ws.length ∧ i = .int .i64 m ∧ Hid (OwnI wx w.heap.size 3 (.slice (some ⟨w.heap.size, 0, none⟩) (n + 1) (n + 1)) ((List.range (n + 1)).map fun j => if j < k then bvl ws vs j else if j = k then inF ws vs (bvl ws vs) k m else 0)) ∧ Hid (Below w.heap.size w wx)) (fun _ _ i _ => ws.length - (intOf i).toNat)
    case atStart => exact ⟨0, Nat.zero_le _, rfl, by
      have e : ((List.range (n + 1)).map fun j => if j < k then bvl ws vs j else if j = k then inF ws vs (bvl ws vs) k 0 else 0) = (List.range (n + 1)).map fun j => if j < k then bvl ws vs j else 0 := List.map_congr_left fun i _ => by
        show (if i < k then _ else if i = k then (0 : Int) else 0) = _
        split
        · rfl
        · split <;> rfl
      rw [e]; exact HO.out, HBr.out⟩
    case round =>
      obtain ⟨m, hm9, rfl, HOx, HBx⟩ := hrel
      obtain ⟨wx, rfl⟩ : ∃ wx : World, wx = wr := ⟨_, rfl⟩
      by_cases hml : m < ws.length
      rotate_left
      · have hnm : ¬ (m : Int) < (ws.length : Int) := by omega
        have HR := Lib.hid (show OwnI wx w.heap.size 3 (.slice (some ⟨w.heap.size, 0, none⟩) (n + 1) (n + 1)) ((List.range (n + 1)).map fun j => if j < k + 1 then bvl ws vs j else 0) by
          have e : ((List.range (n + 1)).map fun j => if j < k then bvl ws vs j else if j = k then inF ws vs (bvl ws vs) k m else 0) = (List.range (n + 1)).map fun j => if j < k + 1 then bvl ws vs j else 0 := List.map_congr_left fun i _ => by
            by_cases h1 : i < k
            · rw [if_pos h1, if_pos (by omega)]
            · rw [if_neg h1]
              by_cases h2 : i = k
              · subst h2
                rw [if_pos rfl, if_pos (by omega), bvl_eq HW1.out i]
                have : m = ws.length := by omega
                rw [this]
              · rw [if_neg h2, if_neg (by omega)]
          rw [← e]; exact HOx.out)
        go_wp2
        go_roundw
        case rel => exact ⟨k + 1, by omega, by omega, by go_num, HR.out, HBx.out⟩
        case measure => simp [intOf]; omega
      obtain ⟨bw, ow, hAw, _, _, ew, _⟩ := (HH.out.below HBx.out hh1).cell hml
      obtain ⟨bv, ov, hAv, _, _, ev, _⟩ := (HY.out.below HBx.out hh2).cell (k := m) (by have := HVL.out; omega)
      subst hAw hAv
      have hx := HWS.out m hml
      have hy := HVS.out m hml
      obtain ⟨g1, hg1, _, _, cw, fw, _⟩ := HOx.out.at_ (i := k) (by simp; omega)
      simp only [Option.some.injEq, Addr.mk.injEq, and_true] at hg1
      subst hg1
      rw [gi_map_range (show k < n + 1 by omega), if_neg (Nat.lt_irrefl k), if_pos rfl] at cw
      have HSN := Lib.hid (show inF ws vs (bvl ws vs) k (m + 1) = if gi ws m ≤ (k : Int) then max (inF ws vs (bvl ws vs) k m) (gi vs m + bvl ws vs (k - (gi ws m).toNat)) else inF ws vs (bvl ws vs) k m from rfl)
      have HCZ := Lib.hid (show ∀ d, d < k → ∃ cz : wx.cell? ⟨w.heap.size, d, none⟩ = some (.int .i64 (bvl ws vs d)), True from fun d hd => by
        obtain ⟨g2, hg2, _, _, c2, f2, _⟩ := HOx.out.at_ (i := d) (by simp; omega)
        simp only [Option.some.injEq, Addr.mk.injEq, and_true] at hg2
        subst hg2
        rw [gi_map_range (show d < n + 1 by omega), if_pos hd] at c2
        exact ⟨c2, trivial⟩)
      have hir := HI.out k m (by omega) (by omega)
      obtain ⟨x, hxe⟩ : ∃ x, x = gi ws m := ⟨_, rfl⟩
      obtain ⟨y, hye⟩ : ∃ y, y = gi vs m := ⟨_, rfl⟩
      obtain ⟨q, hqe⟩ : ∃ q, q = inF ws vs (bvl ws vs) k m := ⟨_, rfl⟩
      rw [← hxe] at ew hx HSN
      rw [← hye] at ev hy HSN
      rw [← hqe] at cw hir HSN
      have HQE := Lib.hid hqe
      have m0 : (0 : Int) ≤ (m : Int) := by omega
      have m1 : (m : Int) < (ws.length : Int) := by omega
      have m2 : (m : Int) < (vs.length : Int) := by have := HVL.out; omega
      clear hxe hye hqe
      by_cases hxk : x ≤ (k : Int)
      · obtain ⟨dd, hdd⟩ : ∃ dd : Nat, dd = k - x.toNat := ⟨_, rfl⟩
        have hd1 : (k : Int) - x = (dd : Int) := by omega
        have hdk : dd < k := by omega
        have gd : IntKind.i64.wrap (dd : Int) = (dd : Int) := IntWalk.i64_in _ (by omega)
        obtain ⟨cz, _⟩ := HCZ.out dd hdk
        have hbz := HB.out dd
        have HS2 := Lib.hid (show inF ws vs (bvl ws vs) k (m + 1) = max q (y + bvl ws vs dd) by rw [HSN.out, if_pos hxk, hdd])
        obtain ⟨z, hze⟩ : ∃ z, z = bvl ws vs dd := ⟨_, rfl⟩
        rw [← hze] at cz hbz HS2
        have gz : IntKind.i64.wrap (y + z) = y + z := IntWalk.i64_in _ (by omega)
        obtain ⟨t, ht⟩ : ∃ t, t = max q (y + z) := ⟨_, rfl⟩
        have hmax : max q (y + z) = t := ht.symm
        have htr : 0 ≤ t ∧ t ≤ 100000 := by omega
        have d0 : (0 : Int) ≤ (dd : Int) := by omega
        have d1 : (dd : Int) < (n : Int) + 1 := by omega
        have d2 : dd < n + 1 := by omega
        have k2 : (k : Int) < (n : Int) + 1 := by omega
        have k3 : k < n + 1 := by omega
        have HO2 := Lib.hid (show OwnI (wx.setCell ⟨w.heap.size, k, none⟩ (.int .i64 t)) w.heap.size 3 (.slice (some ⟨w.heap.size, 0, none⟩) (n + 1) (n + 1)) ((List.range (n + 1)).map fun j => if j < k then bvl ws vs j else if j = k then inF ws vs (bvl ws vs) k (m + 1) else 0) by
          have h9 := HOx.out.setI k (x := t) ⟨by omega, by omega⟩
          rw [mapR_set (g := fun j => if j < k then bvl ws vs j else if j = k then inF ws vs (bvl ws vs) k (m + 1) else 0)] at h9
          · exact h9
          · intro i hi
            by_cases hij : i = k
            · subst hij
              rw [if_neg (Nat.lt_irrefl i), if_pos rfl, if_pos rfl, HS2.out, hmax]
            · rw [if_neg hij, if_neg hij, if_neg hij])
        have HB2 := Lib.hid (HBx.out.setCell (p := ⟨w.heap.size, k, none⟩) (Nat.le_refl _) (.int .i64 t))
        clear hze hdd ht HS2 HOx HBx
        go_wp2
        refine wp_region_last (S := fun w' => w'.cell? ⟨w.heap.size, k, none⟩ = some (.int .i64 q) ∧ w'.cell? ⟨bv, ov + m, none⟩ = some (.int .i64 y) ∧ w'.cell? ⟨w.heap.size, dd, none⟩ = some (.int .i64 z)) 19 (by kernel_rfl) ?_ (fun hHeld => ?_)
        · (first | (try dsimp only); go_keep | (go_split_ands; refine ⟨?_, ?_, ?_⟩ <;> first | exact keepB bx5 (by assumption) | exact keepB bx4 (by assumption) | exact keepB bx3 (by assumption) | exact keepB bx2 (by assumption) | exact keepB bx1 (by assumption) | exact keepO bo5 (by first | (simp; done) | (simp; omega)) (by assumption) | exact keepO bo4 (by first | (simp; done) | (simp; omega)) (by assumption) | exact keepO bo3 (by first | (simp; done) | (simp; omega)) (by assumption) | exact keepO bo2 (by first | (simp; done) | (simp; omega)) (by assumption) | exact keepO bo1 (by first | (simp; done) | (simp; omega)) (by assumption) | exact keepW bg2 (by first | (simp; done) | (simp; omega)) (by assumption) | exact keepW bg1 (by first | (simp; done) | (simp; omega)) (by assumption) | assumption))
        refine AnyL.take (i := 0) (oi := ⟨some 29, _, _, _, _, _⟩) (v := _) rfl (by kernel_rfl) (by kernel_rfl) (by kernel_rfl) (by kernel_rfl) (fun _ _ _ h => h) (Or.inl ⟨by kernel_rfl, by intro w hSw; (try dsimp only at hSw); go_simp; try with_reducible rfl⟩) (by assumption) ?_
        simp only [Act.put, List.setIfInBounds_toArray, List.set_cons_zero, List.set_cons_succ]
        refine AnyL.take (i := 1) (oi := ⟨some 30, _, _, _, _, _⟩) (v := _) rfl (by kernel_rfl) (by kernel_rfl) (by kernel_rfl) (by kernel_rfl) (fun _ _ _ h => h) (Or.inl ⟨by kernel_rfl, by intro w hSw; (try dsimp only at hSw); go_simp; try with_reducible rfl⟩) (by assumption) ?_
        simp only [Act.put, List.setIfInBounds_toArray, List.set_cons_zero, List.set_cons_succ]
        refine AnyL.take (i := 2) (oi := ⟨some 31, _, _, _, _, _⟩) (v := _) rfl (by kernel_rfl) (by kernel_rfl) (by kernel_rfl) (by kernel_rfl) (fun _ _ _ h => h) (Or.inl ⟨by kernel_rfl, by intro w hSw; (try dsimp only at hSw); go_simp; try with_reducible rfl⟩) (by assumption) ?_
        simp only [Act.put, List.setIfInBounds_toArray, List.set_cons_zero, List.set_cons_succ]
        refine AnyL.take (i := 3) (oi := ⟨some 32, _, _, _, _, _⟩) (v := _) rfl (by kernel_rfl) (by kernel_rfl) (by kernel_rfl) (by kernel_rfl) (fun _ _ _ h => h) (Or.inl ⟨by kernel_rfl, by intro w hSw; (try dsimp only at hSw); go_simp; try with_reducible rfl⟩) (by assumption) ?_
        simp only [Act.put, List.setIfInBounds_toArray, List.set_cons_zero, List.set_cons_succ]
        refine AnyL.take (i := 4) (oi := ⟨some 33, _, _, _, _, _⟩) (v := _) rfl (by kernel_rfl) (by kernel_rfl) (by kernel_rfl) (by kernel_rfl) (fun _ _ _ h => h) (Or.inl ⟨by kernel_rfl, by intro w hSw; (try dsimp only at hSw); go_simp; try with_reducible rfl⟩) (by assumption) ?_
        simp only [Act.put, List.setIfInBounds_toArray, List.set_cons_zero, List.set_cons_succ]
        refine AnyL.take (i := 5) (oi := ⟨some 34, _, _, _, _, _⟩) (v := _) rfl (by kernel_rfl) (by kernel_rfl) (by kernel_rfl) (by kernel_rfl) (fun _ _ _ h => h) (Or.inl ⟨by kernel_rfl, by intro w hSw; (try dsimp only at hSw); go_simp; try with_reducible rfl⟩) (by assumption) ?_
        simp only [Act.put, List.setIfInBounds_toArray, List.set_cons_zero, List.set_cons_succ]
        refine AnyL.take (i := 6) (oi := ⟨some 35, _, _, _, _, _⟩) (v := _) rfl (by kernel_rfl) (by kernel_rfl) (by kernel_rfl) (by kernel_rfl) (fun _ _ _ h => h) (Or.inl ⟨by kernel_rfl, by intro w hSw; (try dsimp only at hSw); go_simp; try with_reducible rfl⟩) (by assumption) ?_
        simp only [Act.put, List.setIfInBounds_toArray, List.set_cons_zero, List.set_cons_succ]
        refine AnyL.take (i := 7) (oi := ⟨some 36, _, _, _, _, _⟩) (v := _) rfl (by kernel_rfl) (by kernel_rfl) (by kernel_rfl) (by kernel_rfl) (fun _ _ _ h => h) (Or.inl ⟨by kernel_rfl, by intro w hSw; (try dsimp only at hSw); go_simp; try with_reducible rfl⟩) (by assumption) ?_
        simp only [Act.put, List.setIfInBounds_toArray, List.set_cons_zero, List.set_cons_succ]
        refine AnyL.take (i := 8) (oi := ⟨some 37, _, _, _, _, _⟩) (v := _) rfl (by kernel_rfl) (by kernel_rfl) (by kernel_rfl) (by kernel_rfl) (fun _ _ _ h => h) (Or.inl ⟨by kernel_rfl, by intro w hSw; (try dsimp only at hSw); go_simp; try with_reducible rfl⟩) (by assumption) ?_
        simp only [Act.put, List.setIfInBounds_toArray, List.set_cons_zero, List.set_cons_succ]
        refine AnyL.take (i := 9) (oi := ⟨some 38, _, _, _, _, _⟩) (v := _) rfl (by kernel_rfl) (by kernel_rfl) (by kernel_rfl) (by kernel_rfl) (fun _ _ _ h => h) (Or.inl ⟨by kernel_rfl, by intro w hSw; (try dsimp only at hSw); go_simp; try with_reducible rfl⟩) (by assumption) ?_
        simp only [Act.put, List.setIfInBounds_toArray, List.set_cons_zero, List.set_cons_succ]
        refine AnyL.take (i := 10) (oi := ⟨some 39, _, _, _, _, _⟩) (v := _) rfl (by kernel_rfl) (by kernel_rfl) (by kernel_rfl) (by kernel_rfl) (fun _ _ _ h => h) (Or.inl ⟨by kernel_rfl, by intro w hSw; (try dsimp only at hSw); go_simp; try with_reducible rfl⟩) (by assumption) ?_
        simp only [Act.put, List.setIfInBounds_toArray, List.set_cons_zero, List.set_cons_succ]
        refine AnyL.take (i := 11) (oi := ⟨some 40, _, _, _, _, _⟩) (v := _) rfl (by kernel_rfl) (by kernel_rfl) (by kernel_rfl) (by kernel_rfl) (fun _ _ _ h => h) (Or.inl ⟨by kernel_rfl, by intro w hSw; (try dsimp only at hSw); go_simp; try with_reducible rfl⟩) (by assumption) ?_
        simp only [Act.put, List.setIfInBounds_toArray, List.set_cons_zero, List.set_cons_succ]
        refine AnyL.take (i := 12) (oi := ⟨some 41, _, _, _, _, _⟩) (v := _) rfl (by kernel_rfl) (by kernel_rfl) (by kernel_rfl) (by kernel_rfl) (fun _ _ _ h => h) (Or.inl ⟨by kernel_rfl, by intro w hSw; (try dsimp only at hSw); go_simp; try with_reducible rfl⟩) (by assumption) ?_
        simp only [Act.put, List.setIfInBounds_toArray, List.set_cons_zero, List.set_cons_succ]
        refine AnyL.take (i := 13) (oi := ⟨some 42, _, _, _, _, _⟩) (v := _) rfl (by kernel_rfl) (by kernel_rfl) (by kernel_rfl) (by kernel_rfl) (fun _ _ _ h => h) (Or.inl ⟨by kernel_rfl, by intro w hSw; (try dsimp only at hSw); go_simp; try with_reducible rfl⟩) (by assumption) ?_
        simp only [Act.put, List.setIfInBounds_toArray, List.set_cons_zero, List.set_cons_succ]
        refine AnyL.take (i := 14) (oi := ⟨some 43, _, _, _, _, _⟩) (v := _) rfl (by kernel_rfl) (by kernel_rfl) (by kernel_rfl) (by kernel_rfl) (fun _ _ _ h => h) (Or.inl ⟨by kernel_rfl, by intro w hSw; (try dsimp only at hSw); go_simp; try with_reducible rfl⟩) (by assumption) ?_
        simp only [Act.put, List.setIfInBounds_toArray, List.set_cons_zero, List.set_cons_succ]
        refine AnyL.take (i := 15) (oi := ⟨some 44, _, _, _, _, _⟩) (v := _) rfl (by kernel_rfl) (by kernel_rfl) (by kernel_rfl) (by kernel_rfl) (fun _ _ _ h => h) (Or.inl ⟨by kernel_rfl, by intro w hSw; (try dsimp only at hSw); go_simp; try with_reducible rfl⟩) (by assumption) ?_
        simp only [Act.put, List.setIfInBounds_toArray, List.set_cons_zero, List.set_cons_succ]
        refine AnyL.take (i := 16) (oi := ⟨some 45, _, _, _, _, _⟩) (v := _) rfl (by kernel_rfl) (by kernel_rfl) (by kernel_rfl) (by kernel_rfl) (fun _ _ _ h => h) (Or.inl ⟨by kernel_rfl, by intro w hSw; (try dsimp only at hSw); go_simp; try with_reducible rfl⟩) (by assumption) ?_
        simp only [Act.put, List.setIfInBounds_toArray, List.set_cons_zero, List.set_cons_succ]
        refine AnyL.take (i := 17) (oi := ⟨some 46, _, _, _, _, _⟩) (v := _) rfl (by kernel_rfl) (by kernel_rfl) (by kernel_rfl) (by kernel_rfl) (fun _ _ _ h => h) (Or.inl ⟨by kernel_rfl, by intro w hSw; (try dsimp only at hSw); go_simp; try with_reducible rfl⟩) (by assumption) ?_
        simp only [Act.put, List.setIfInBounds_toArray, List.set_cons_zero, List.set_cons_succ]
        refine AnyL.take (i := 18) (oi := ⟨some 47, _, _, _, _, _⟩) (v := _) rfl (by kernel_rfl) (by kernel_rfl) (by kernel_rfl) (by kernel_rfl) (fun _ _ _ h => h) (Or.inl ⟨by kernel_rfl, by intro w hSw; (try dsimp only at hSw); go_simp; try with_reducible rfl⟩) (by assumption) ?_
        simp only [Act.put, List.setIfInBounds_toArray, List.set_cons_zero, List.set_cons_succ]
        refine AnyL.last (o := ⟨none, _, _, _, _, _⟩) (by kernel_rfl) rfl (by kernel_rfl) (fun K hK => ?_)
        go_simp
        refine hK.out _ _ ?_
        clear hK K hHeld
        go_wp2
        go_roundw
        case rel => exact ⟨m + 1, by omega, by go_num, HO2.out, HB2.out.drew⟩
        case measure => simp [intOf]; omega
      · have HO2 := Lib.hid (show OwnI wx w.heap.size 3 (.slice (some ⟨w.heap.size, 0, none⟩) (n + 1) (n + 1)) ((List.range (n + 1)).map fun j => if j < k then bvl ws vs j else if j = k then inF ws vs (bvl ws vs) k (m + 1) else 0) by
          have e : inF ws vs (bvl ws vs) k (m + 1) = inF ws vs (bvl ws vs) k m := by rw [HSN.out, if_neg hxk, HQE.out]
          rw [e]; exact HOx.out)
        go_wp2
        go_roundw
        case rel => exact ⟨m + 1, by omega, by go_num, HO2.out, HBx.out⟩
        case measure => simp [intOf]; omega
set_option maxRecDepth 100000 in
set_option maxHeartbeats 4000000 in
theorem bestUseS_any (l1 h1 l2 h2 n : Nat) (v u : Value) (ws vs : List Int) (w : World) (hv : vVal n ws vs = true) (h : Ints w l1 h1 v ws) (hh1 : h1 ≤ w.heap.size) (hy : Ints w l2 h2 u vs) (hh2 : h2 ≤ w.heap.size) :
    Calls Try.prog 86 #[.int .i64 n, v, u] w fun e w' => ∃ v', e = .returned v' ∧ OwnI w' w.heap.size 3 v' ((List.range (n + 1)).map (bvl ws vs)) ∧ Below w.heap.size w w' := by
  obtain ⟨A, c, rfl, hc, hm⟩ := h.form
  obtain ⟨B, d, rfl, hd, hm2⟩ := hy.form
  obtain ⟨hvw, hvl, hvr⟩ := vVal_iff.1 hv
  have hvd := vWid_iff.1 hvw
  have hn60 : n ≤ 60 := by omega
  have hn1 : 1 ≤ n := by omega
  have hws6 : ws.length ≤ 6 := hvd.2.2.2.1
  have HWS := Lib.hid (show ∀ i, i < ws.length → 1 ≤ gi ws i ∧ gi ws i ≤ n from fun i hi => vWid_w hvw hi)
  have HW1 := Lib.hid (show ∀ i, i < ws.length → 1 ≤ gi ws i from fun i hi => (vWid_w hvw hi).1)
  have HVS := Lib.hid (show ∀ i, i < ws.length → 0 ≤ gi vs i ∧ gi vs i ≤ 100 from fun i hi => hvr i (by omega))
  have HB := Lib.hid (show ∀ r, 0 ≤ bvl ws vs r ∧ bvl ws vs r ≤ 100 * r from fun r => bvl_100 HW1.out HVS.out r)
  have HI := Lib.hid (show ∀ r m, r ≤ 60 → m ≤ ws.length → 0 ≤ inF ws vs (bvl ws vs) r m ∧ inF ws vs (bvl ws vs) r m ≤ 10000 from fun r m hr hm => ⟨inF_nn m, inF_le (by omega) fun i hi h9 => by
    have h1 := HVS.out i (by omega)
    have h2 := (HB.out (r - (gi ws i).toNat)).2
    omega⟩)
  have HH := Lib.hid h
  have HY := Lib.hid hy
  have HVL := Lib.hid hvl
  have b1 : Below w.heap.size w (w.alloc (.cells #[] 3)) := (Below.refl _ _).alloc (Nat.le_refl _) _
  have HE0 := Lib.hid (OwnI.empty w w.heap.size 3 (Nat.le_refl _))
  have HG0 := Lib.hid b1
  clear hv hvw hvl hvr hvd h hy b1
  obtain ⟨RR, hRR⟩ : ∃ R, R = (List.range (n + 1)).map (bvl ws vs) := ⟨_, rfl⟩
  rw [← hRR]
  have HRR := Lib.hid hRR
  clear hRR
  go_enter Try.func86, Try.ntmps86
  go_wp2
  go_loopw [7, 8, 9, 10] (fun o i _ _ wr => ∃ k : Nat, k ≤ n + 1 ∧ i = .int .i64 k ∧ OwnI wr w.heap.size 3 o ((List.range k).map (bvl ws vs)) ∧ Hid (Below w.heap.size w wr)) (fun _ i _ _ _ => n + 1 - (intOf i).toNat)
  case atStart => exact ⟨0, by omega, rfl, HE0.out, HG0.out⟩
  case round =>
    obtain ⟨k, hk, rfl, HO, HBr⟩ := hrel
    clear HE0 HG0
    have hfo := HO.form
    obtain ⟨Ao, co, rfl, hco, hco2⟩ := hfo
    simp only [List.length_map, List.length_range] at HO hco ⊢
    have HO := Lib.hid HO
    by_cases hlt : k ≤ n
    rotate_left
    · have hnk : ¬ (k : Int) ≤ (n : Int) := by omega
      have HK := Lib.hid (show k = n + 1 by omega)
      have HR := Lib.hid (show OwnI wr w.heap.size 3 (.slice Ao k co) RR by rw [HRR.out, ← HK.out]; exact HO.out)
      go_wp2
      go_ret
      exact ⟨_, rfl, HR.out, HBr.out⟩
    have hlt1 : (k : Int) ≤ (n : Int) := by omega
    go_wp2
    obtain ⟨wk, hwk⟩ : ∃ wk : World, wk = wr := ⟨_, rfl⟩
    rw [← hwk]
    rw [← hwk] at HO HBr
    clear hwk
    go_loopw [9, 10] (fun q i wx => ∃ m : Nat, m ≤ ws.length ∧ i = .int .i64 m ∧ q = .int .i64 (inF ws vs (bvl ws vs) k m) ∧ Hid (OwnI wx w.heap.size 3 (.slice Ao k co) ((List.range k).map (bvl ws vs))) ∧ Hid (Below w.heap.size w wx)) (fun _ i _ => ws.length - (intOf i).toNat)
    case atStart => exact ⟨0, Nat.zero_le _, rfl, rfl, HO.out, HBr.out⟩
    case round =>
      clear HO HBr
      obtain ⟨m, hm9, rfl, rfl, HO, HBr⟩ := hrel
      have hir := HI.out k m (by omega) (by omega)
      by_cases hml : m < ws.length
      rotate_left
      · have hnm : ¬ (m : Int) < (ws.length : Int) := by omega
        have HQ := Lib.hid (show (List.range k).map (bvl ws vs) ++ [inF ws vs (bvl ws vs) k m] = (List.range (k + 1)).map (bvl ws vs) by
          have : m = ws.length := by omega
          rw [this, ← bvl_eq HW1.out k, List.range_succ, List.map_append]; rfl)
        obtain ⟨q, hqe⟩ : ∃ q, q = inF ws vs (bvl ws vs) k m := ⟨_, rfl⟩
        rw [← hqe] at hir HQ ⊢
        clear hqe
        have hzr := HBr.out.size
        go_wp2_with (at_builtin; refine wpList_appendI SlI _ rfl (.tmp 45) (.tmp 47) rfl q w.heap.size _ ((List.range k).map (bvl ws vs)) rfl rfl HO.out ⟨by omega, by omega⟩ (by simp; omega) (by omega) ?_; intro v' w6 ho6 hg6; have HO6 := Lib.hid (show OwnI w6 w.heap.size 3 v' ((List.range (k + 1)).map (bvl ws vs)) by rw [← HQ.out]; exact ho6); have HB6 := Lib.hid (HBr.out.trans hg6.below); clear ho6 hg6)
        go_roundw
        case rel => exact ⟨k + 1, by omega, by go_num, HO6.out, HB6.out⟩
        case measure => simp [intOf]; omega
      obtain ⟨bw, ow, hAw, _, _, ew, _⟩ := (HH.out.below HBr.out hh1).cell hml
      obtain ⟨bv, ov, hAv, _, _, ev, _⟩ := (HY.out.below HBr.out hh2).cell (k := m) (by have := HVL.out; omega)
      subst hAw hAv
      have hx := HWS.out m hml
      have hy := HVS.out m hml
      have HSN := Lib.hid (show inF ws vs (bvl ws vs) k (m + 1) = if gi ws m ≤ (k : Int) then max (inF ws vs (bvl ws vs) k m) (gi vs m + bvl ws vs (k - (gi ws m).toNat)) else inF ws vs (bvl ws vs) k m from rfl)
      obtain ⟨x, hxe⟩ : ∃ x, x = gi ws m := ⟨_, rfl⟩
      obtain ⟨y, hye⟩ : ∃ y, y = gi vs m := ⟨_, rfl⟩
      obtain ⟨q, hqe⟩ : ∃ q, q = inF ws vs (bvl ws vs) k m := ⟨_, rfl⟩
      rw [← hxe] at ew hx HSN
      rw [← hye] at ev hy HSN
      rw [← hqe] at hir HSN ⊢
      have HQE := Lib.hid hqe
      have m0 : (0 : Int) ≤ (m : Int) := by omega
      have m1 : (m : Int) < (ws.length : Int) := by omega
      have m2 : (m : Int) < (vs.length : Int) := by have := HVL.out; omega
      clear hxe hye hqe
      by_cases hxk : x ≤ (k : Int)
      · obtain ⟨dd, hdd⟩ : ∃ dd : Nat, dd = k - x.toNat := ⟨_, rfl⟩
        have hd1 : (k : Int) - x = (dd : Int) := by omega
        have hdk : dd < k := by omega
        have gd : IntKind.i64.wrap (dd : Int) = (dd : Int) := IntWalk.i64_in _ (by omega)
        obtain ⟨g2, hg2, _, _, cz, fz, _⟩ := HO.out.at_ (i := dd) (by simp; omega)
        subst hg2
        rw [gi_map_range hdk] at cz
        have hbz := HB.out dd
        have HS2 := Lib.hid (show inF ws vs (bvl ws vs) k (m + 1) = max q (y + bvl ws vs dd) by rw [HSN.out, if_pos hxk, hdd])
        obtain ⟨z, hze⟩ : ∃ z, z = bvl ws vs dd := ⟨_, rfl⟩
        rw [← hze] at cz hbz HS2
        have gz : IntKind.i64.wrap (y + z) = y + z := IntWalk.i64_in _ (by omega)
        obtain ⟨t, ht⟩ : ∃ t, t = max q (y + z) := ⟨_, rfl⟩
        have hmax : max q (y + z) = t := ht.symm
        have HT := Lib.hid (show t = inF ws vs (bvl ws vs) k (m + 1) by rw [HS2.out, hmax])
        have d0 : (0 : Int) ≤ (dd : Int) := by omega
        have d1 : (dd : Int) < (k : Int) := by omega
        clear hze hdd ht HS2
        go_wp2
        refine wp_region_held_drew (S := fun w' => w'.cell? ⟨bv, ov + m, none⟩ = some (.int .i64 y) ∧ w'.cell? ⟨bw, ow + m, none⟩ = some (.int .i64 x) ∧ w'.cell? ⟨g2, dd, none⟩ = some (.int .i64 z)) (by kernel_rfl) ?_ (fun hHeld => ?_)
        · (first | (try dsimp only); go_keep | (go_split_ands; refine ⟨?_, ?_, ?_⟩ <;> first | exact keepB bx5 (by assumption) | exact keepB bx4 (by assumption) | exact keepB bx3 (by assumption) | exact keepB bx2 (by assumption) | exact keepB bx1 (by assumption) | exact keepO bo5 (by first | (simp; done) | (simp; omega)) (by assumption) | exact keepO bo4 (by first | (simp; done) | (simp; omega)) (by assumption) | exact keepO bo3 (by first | (simp; done) | (simp; omega)) (by assumption) | exact keepO bo2 (by first | (simp; done) | (simp; omega)) (by assumption) | exact keepO bo1 (by first | (simp; done) | (simp; omega)) (by assumption) | exact keepW bg2 (by first | (simp; done) | (simp; omega)) (by assumption) | exact keepW bg1 (by first | (simp; done) | (simp; omega)) (by assumption) | assumption))
        refine wpAnyH_take (i := 0) (oi := ⟨some 29, _, _, _, _, _⟩) (v := _) rfl (by kernel_rfl) (by kernel_rfl) (by kernel_rfl) (fun _ _ _ h => h) (Or.inl ⟨by kernel_rfl, by intro w hSw; (try dsimp only at hSw); go_simp; try with_reducible rfl⟩) (by assumption) ?_
        simp only [Act.put, List.setIfInBounds_toArray, List.set_cons_zero, List.set_cons_succ]
        refine wpAnyH_take (i := 1) (oi := ⟨some 30, _, _, _, _, _⟩) (v := _) rfl (by kernel_rfl) (by kernel_rfl) (by kernel_rfl) (fun _ _ _ h => h) (Or.inl ⟨by kernel_rfl, by intro w hSw; (try dsimp only at hSw); go_simp; try with_reducible rfl⟩) (by assumption) ?_
        simp only [Act.put, List.setIfInBounds_toArray, List.set_cons_zero, List.set_cons_succ]
        refine wpAnyH_take (i := 2) (oi := ⟨some 31, _, _, _, _, _⟩) (v := _) rfl (by kernel_rfl) (by kernel_rfl) (by kernel_rfl) (fun _ _ _ h => h) (Or.inl ⟨by kernel_rfl, by intro w hSw; (try dsimp only at hSw); go_simp; try with_reducible rfl⟩) (by assumption) ?_
        simp only [Act.put, List.setIfInBounds_toArray, List.set_cons_zero, List.set_cons_succ]
        refine wpAnyH_take (i := 3) (oi := ⟨some 32, _, _, _, _, _⟩) (v := _) rfl (by kernel_rfl) (by kernel_rfl) (by kernel_rfl) (fun _ _ _ h => h) (Or.inl ⟨by kernel_rfl, by intro w hSw; (try dsimp only at hSw); go_simp; try with_reducible rfl⟩) (by assumption) ?_
        simp only [Act.put, List.setIfInBounds_toArray, List.set_cons_zero, List.set_cons_succ]
        refine wpAnyH_take (i := 4) (oi := ⟨some 33, _, _, _, _, _⟩) (v := _) rfl (by kernel_rfl) (by kernel_rfl) (by kernel_rfl) (fun _ _ _ h => h) (Or.inl ⟨by kernel_rfl, by intro w hSw; (try dsimp only at hSw); go_simp; try with_reducible rfl⟩) (by assumption) ?_
        simp only [Act.put, List.setIfInBounds_toArray, List.set_cons_zero, List.set_cons_succ]
        refine wpAnyH_take (i := 5) (oi := ⟨some 34, _, _, _, _, _⟩) (v := _) rfl (by kernel_rfl) (by kernel_rfl) (by kernel_rfl) (fun _ _ _ h => h) (Or.inl ⟨by kernel_rfl, by intro w hSw; (try dsimp only at hSw); go_simp; try with_reducible rfl⟩) (by assumption) ?_
        simp only [Act.put, List.setIfInBounds_toArray, List.set_cons_zero, List.set_cons_succ]
        refine wpAnyH_take (i := 6) (oi := ⟨some 35, _, _, _, _, _⟩) (v := _) rfl (by kernel_rfl) (by kernel_rfl) (by kernel_rfl) (fun _ _ _ h => h) (Or.inl ⟨by kernel_rfl, by intro w hSw; (try dsimp only at hSw); go_simp; try with_reducible rfl⟩) (by assumption) ?_
        simp only [Act.put, List.setIfInBounds_toArray, List.set_cons_zero, List.set_cons_succ]
        refine wpAnyH_take (i := 7) (oi := ⟨some 36, _, _, _, _, _⟩) (v := _) rfl (by kernel_rfl) (by kernel_rfl) (by kernel_rfl) (fun _ _ _ h => h) (Or.inl ⟨by kernel_rfl, by intro w hSw; (try dsimp only at hSw); go_simp; try with_reducible rfl⟩) (by assumption) ?_
        simp only [Act.put, List.setIfInBounds_toArray, List.set_cons_zero, List.set_cons_succ]
        refine wpAnyH_take (i := 8) (oi := ⟨some 37, _, _, _, _, _⟩) (v := _) rfl (by kernel_rfl) (by kernel_rfl) (by kernel_rfl) (fun _ _ _ h => h) (Or.inl ⟨by kernel_rfl, by intro w hSw; (try dsimp only at hSw); go_simp; try with_reducible rfl⟩) (by assumption) ?_
        simp only [Act.put, List.setIfInBounds_toArray, List.set_cons_zero, List.set_cons_succ]
        refine wpAnyH_take (i := 9) (oi := ⟨some 38, _, _, _, _, _⟩) (v := _) rfl (by kernel_rfl) (by kernel_rfl) (by kernel_rfl) (fun _ _ _ h => h) (Or.inl ⟨by kernel_rfl, by intro w hSw; (try dsimp only at hSw); go_simp; try with_reducible rfl⟩) (by assumption) ?_
        simp only [Act.put, List.setIfInBounds_toArray, List.set_cons_zero, List.set_cons_succ]
        refine wpAnyH_take (i := 10) (oi := ⟨some 39, _, _, _, _, _⟩) (v := _) rfl (by kernel_rfl) (by kernel_rfl) (by kernel_rfl) (fun _ _ _ h => h) (Or.inl ⟨by kernel_rfl, by intro w hSw; (try dsimp only at hSw); go_simp; try with_reducible rfl⟩) (by assumption) ?_
        simp only [Act.put, List.setIfInBounds_toArray, List.set_cons_zero, List.set_cons_succ]
        refine wpAnyH_take (i := 11) (oi := ⟨some 40, _, _, _, _, _⟩) (v := _) rfl (by kernel_rfl) (by kernel_rfl) (by kernel_rfl) (fun _ _ _ h => h) (Or.inl ⟨by kernel_rfl, by intro w hSw; (try dsimp only at hSw); go_simp; try with_reducible rfl⟩) (by assumption) ?_
        simp only [Act.put, List.setIfInBounds_toArray, List.set_cons_zero, List.set_cons_succ]
        refine wpAnyH_take (i := 12) (oi := ⟨some 41, _, _, _, _, _⟩) (v := _) rfl (by kernel_rfl) (by kernel_rfl) (by kernel_rfl) (fun _ _ _ h => h) (Or.inl ⟨by kernel_rfl, by intro w hSw; (try dsimp only at hSw); go_simp; try with_reducible rfl⟩) (by assumption) ?_
        simp only [Act.put, List.setIfInBounds_toArray, List.set_cons_zero, List.set_cons_succ]
        refine wpAnyH_take (i := 13) (oi := ⟨some 42, _, _, _, _, _⟩) (v := _) rfl (by kernel_rfl) (by kernel_rfl) (by kernel_rfl) (fun _ _ _ h => h) (Or.inl ⟨by kernel_rfl, by intro w hSw; (try dsimp only at hSw); go_simp; try with_reducible rfl⟩) (by assumption) ?_
        simp only [Act.put, List.setIfInBounds_toArray, List.set_cons_zero, List.set_cons_succ]
        refine wpAnyH_take (i := 14) (oi := ⟨some 43, _, _, _, _, _⟩) (v := _) rfl (by kernel_rfl) (by kernel_rfl) (by kernel_rfl) (fun _ _ _ h => h) (Or.inl ⟨by kernel_rfl, by intro w hSw; (try dsimp only at hSw); go_simp; try with_reducible rfl⟩) (by assumption) ?_
        simp only [Act.put, List.setIfInBounds_toArray, List.set_cons_zero, List.set_cons_succ]
        refine wpAnyH_take (i := 15) (oi := ⟨some 44, _, _, _, _, _⟩) (v := _) rfl (by kernel_rfl) (by kernel_rfl) (by kernel_rfl) (fun _ _ _ h => h) (Or.inl ⟨by kernel_rfl, by intro w hSw; (try dsimp only at hSw); go_simp; try with_reducible rfl⟩) (by assumption) ?_
        simp only [Act.put, List.setIfInBounds_toArray, List.set_cons_zero, List.set_cons_succ]
        refine wpAnyH_take (i := 16) (oi := ⟨some 9, _, _, _, _, _⟩) (v := _) rfl (by kernel_rfl) (by kernel_rfl) (by kernel_rfl) (fun _ _ _ h => h) (Or.inl ⟨by kernel_rfl, by intro w hSw; (try dsimp only at hSw); go_simp; try with_reducible rfl⟩) (by assumption) ?_
        simp only [Act.put, List.setIfInBounds_toArray, List.set_cons_zero, List.set_cons_succ]
        refine wpAnyH_done (by kernel_rfl) ?_ _
        go_wp2
        go_roundw
        case rel => exact ⟨m + 1, by omega, by go_num, by rw [HT.out], HO.out.drew, HBr.out.drew⟩
        case measure => simp [intOf]; omega
      · have HT := Lib.hid (show q = inF ws vs (bvl ws vs) k (m + 1) by rw [HSN.out, if_neg hxk])
        go_wp2
        go_roundw
        case rel => exact ⟨m + 1, by omega, by go_num, by rw [HT.out], HO.out, HBr.out⟩
        case measure => simp [intOf]; omega
end Go.Proofs.Yteckjiaaikdghaa
