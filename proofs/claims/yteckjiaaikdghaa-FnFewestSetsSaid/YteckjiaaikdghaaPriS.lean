/-
  Lemmas and contracts of single functions of this program, used by the proofs of its laws: what each call returns and what becomes of memory. Conditions: the hypotheses of each theorem.
-/
import Derived.Test.YteckjiaaikdghaaPriR
namespace Go.Proofs.Yteckjiaaikdghaa
open Go.RowKit
attribute [local go_sem ↓] Go.wp_at_zero Go.wp_at_succ

set_option maxRecDepth 100000 in
set_option maxHeartbeats 1000000 in
theorem BestUseI_any (l1 h1 l2 h2 n : Nat) (v u : Value) (ws vs : List Int) (w : World) (hv : vVal n ws vs = true) (h : Ints w l1 h1 v ws) (hh1 : h1 ≤ w.heap.size) (hy : Ints w l2 h2 u vs) (hh2 : h2 ≤ w.heap.size) :
    Calls Try.prog 83 #[.int .i64 n, v, u] w fun e w' => e = .returned (.int .i64 (bvl ws vs n)) ∧ Below w.heap.size w w' := by
  obtain ⟨A, c, rfl, hc, hm⟩ := h.form
  obtain ⟨B, d, rfl, hd, hm2⟩ := hy.form
  have HV := Lib.hid hv
  have hn60 : n ≤ 60 := by have := (vWid_iff.1 (vVal_iff.1 hv).1).2.1; omega
  have HH := Lib.hid h
  have HY := Lib.hid hy
  clear hv h hy
  go_enter Try.func83, Try.ntmps83
  go_wp2_with fail
  refine (validValuesI_any _ _ _ _ n _ _ ws vs w HH.out HY.out).mono ?_
  rw [HV.out]
  rintro e x1 ⟨rfl, hx1⟩
  subst hx1
  go_wp2_with fail
  refine (bestValues_any _ _ _ _ n _ _ ws vs w HV.out HH.out hh1 HY.out hh2).mono ?_
  rintro e w2 ⟨v2, rfl, ho, hb⟩
  obtain ⟨Ao, co, rfl, hco, hco2⟩ := ho.form
  obtain ⟨g, hg, _, _, cz, fz, _⟩ := ho.at_ (i := n) (by simp)
  subst hg
  rw [gi_map_range (Nat.lt_succ_self n)] at cz
  simp only [List.length_map, List.length_range] at ho hco ⊢
  have HB := Lib.hid hb
  have n0 : (0 : Int) ≤ (n : Int) := by omega
  have n1 : (n : Int) < (n : Int) + 1 := by omega
  have n2 : n < n + 1 := by omega
  clear ho hb
  go_wp2
  go_ret
  exact ⟨rfl, HB.out⟩
theorem pbL_no1 {W : Int} {ws ns vs : List Int} (h : vWan W ws ns = false) : pbL W ws ns vs = -1 := by unfold pbL; rw [h]; simp
theorem pbL_no2 {W : Int} {ws ns vs : List Int} (h : vVal W ws vs = false) : pbL W ws ns vs = -1 := by unfold pbL; rw [h]; simp
theorem used_rngP {W : Int} {ws ns vs : List Int} (hn : vWan W ws ns = true) (hv : vVal W ws vs = true) {k : Nat} (hk : k ≤ ns.length) : 0 ≤ usedL vs ns k ∧ usedL vs ns k ≤ 1000000 * k := by
  obtain ⟨a, b, c⟩ := vVal_iff.1 hv
  obtain ⟨_, e, f, _⟩ := vWan_iff.1 hn
  refine ⟨used_nonneg (n := ns.length) (fun i hi => ⟨(f i hi).1, (c i (by omega)).1⟩) hk, used_le (b := 0) (n := ns.length) (fun i hi => ?_) hk⟩
  have h1 := f i hi
  have h2 := c i (by omega)
  omega
set_option maxRecDepth 100000 in
set_option maxHeartbeats 2000000 in
theorem PriceBoundI_any (l1 h1 l2 h2 l3 h3 : Nat) (W : Int) (v u z : Value) (ws ns vs : List Int) (w : World) (h : Ints w l1 h1 v ws) (hh1 : h1 ≤ w.heap.size) (hy : Ints w l2 h2 u ns) (hh2 : h2 ≤ w.heap.size) (hz : Ints w l3 h3 z vs) (hh3 : h3 ≤ w.heap.size) :
    Calls Try.prog 44 #[.int .i64 W, v, u, z] w fun e w' => e = .returned (.int .i64 (pbL W ws ns vs)) ∧ Below w.heap.size w w' := by
  obtain ⟨A, c, rfl, hc, hm⟩ := h.form
  obtain ⟨B, d, rfl, hd, hm2⟩ := hy.form
  obtain ⟨C, d3, rfl, hd3, hm3⟩ := hz.form
  obtain ⟨R, hR⟩ : ∃ R, R = pbL W ws ns vs := ⟨_, rfl⟩
  rw [← hR]
  have HR := Lib.hid hR
  have HH := Lib.hid h
  have HY := Lib.hid hy
  have HZ := Lib.hid hz
  clear hR h hy hz
  go_enter Try.func44, Try.ntmps44
  go_wp2_with fail
  refine (ValidWants_any _ _ _ _ W _ _ ws ns w HH.out HY.out).mono ?_
  rintro e x1 ⟨rfl, hx1⟩
  subst hx1
  cases y1 : vWan W ws ns
  · have Hno := Lib.hid (show R = -1 by rw [HR.out]; exact pbL_no1 y1)
    go_wp2
    go_ret
    exact ⟨ret_int Hno.out.symm, Below.refl _ _⟩
  have HN := Lib.hid y1
  clear y1
  go_wp2_with fail
  refine (validValuesI_any _ _ _ _ W _ _ ws vs w HH.out HZ.out).mono ?_
  rintro e x1 ⟨rfl, hx1⟩
  subst hx1
  cases y2 : vVal W ws vs
  · have Hno := Lib.hid (show R = -1 by rw [HR.out]; exact pbL_no2 y2)
    go_wp2
    go_ret
    exact ⟨ret_int Hno.out.symm, Below.refl _ _⟩
  have HV := Lib.hid y2
  clear y2
  have hwd := vWid_iff.1 (vVal_iff.1 HV.out).1
  obtain ⟨n, rfl⟩ := Int.eq_ofNat_of_zero_le (show 0 ≤ W by omega)
  have hn60 : n ≤ 60 := by omega
  have hns : ns.length ≤ 6 := by have := (vWan_iff.1 HN.out).2.1; omega
  have HNL := Lib.hid (show ns.length = vs.length by have := (vWan_iff.1 HN.out).2.1; have := (vVal_iff.1 HV.out).2.1; omega)
  have HNR := Lib.hid (vWan_iff.1 HN.out).2.2.1
  have HVR := Lib.hid (vVal_iff.1 HV.out).2.2
  have HU := Lib.hid (fun k hk => used_rngP HN.out HV.out (k := k) hk)
  clear hwd
  go_wp2
  go_loopw [9, 10, 11, 27] (fun s _ _ i wr => ∃ k : Nat, k ≤ ns.length ∧ i = .int .i64 k ∧ s = .int .i64 (usedL vs ns k) ∧ Hid (Below w.heap.size w wr)) (fun _ _ _ i _ => ns.length - (intOf i).toNat)
  case atStart => exact ⟨0, Nat.zero_le _, rfl, rfl, Below.refl _ _⟩
  case round =>
    obtain ⟨k, hk, rfl, rfl, HB⟩ := hrel
    have hur := HU.out k hk
    by_cases hlt : k < ns.length
    · obtain ⟨b1, o1, hA1, _, _, e1, _⟩ := (HY.out.below HB.out hh2).cell hlt
      obtain ⟨b2, o2, hA2, _, _, e2, _⟩ := (HZ.out.below HB.out hh3).cell (k := k) (by have := HNL.out; omega)
      subst hA1 hA2
      have hx := HNR.out k hlt
      have hy := HVR.out k (by have := HNL.out; omega)
      have HS := Lib.hid (show usedL vs ns (k + 1) = usedL vs ns k + gi ns k * gi vs k from rfl)
      have p0 : 0 ≤ gi ns k * gi vs k := Int.mul_nonneg hx.1 hy.1
      have p1 : gi ns k * gi vs k ≤ 20 * 100 := Int.mul_le_mul hx.2 hy.2 hy.1 (by omega)
      obtain ⟨x, hxe⟩ : ∃ x, x = gi ns k := ⟨_, rfl⟩
      obtain ⟨y, hye⟩ : ∃ y, y = gi vs k := ⟨_, rfl⟩
      obtain ⟨s, hse⟩ : ∃ s, s = usedL vs ns k := ⟨_, rfl⟩
      rw [← hxe] at e1 HS p0 p1 hx
      rw [← hye] at e2 HS p0 p1 hy
      rw [← hse] at HS hur ⊢
      have g1 : IntKind.i64.wrap (x * y) = x * y := IntWalk.i64_in _ (by omega)
      have g2 : IntKind.i64.wrap (s + x * y) = s + x * y := IntWalk.i64_in _ (by omega)
      have hk0 : (0 : Int) ≤ (k : Int) := by omega
      have hk1 : (k : Int) < (ns.length : Int) := by omega
      have hk2 : (k : Int) < (vs.length : Int) := by have := HNL.out; omega
      clear hxe hye hse p0 p1 hur hx hy
      go_wp2
      go_roundw
      case rel => exact ⟨k + 1, by omega, by go_num, by rw [HS.out], HB.out⟩
      case measure => simp [intOf]; omega
    have hke : k = ns.length := by omega
    have HRW := Lib.hid (show R = if usedL vs ns k = 0 then 0 else (usedL vs ns k + bvl ws vs n - 1) / bvl ws vs n by
      rw [HR.out, hke]
      unfold pbL
      rw [if_pos ⟨HN.out, HV.out⟩]; rfl)
    have HPOS := Lib.hid (show ¬ usedL vs ns k = 0 → 0 < bvl ws vs n from fun hs => by
      rw [hke] at hs
      exact best_pos HN.out HV.out hs)
    have hbr := bvl_100 (ws := ws) (vs := vs) (fun i hi => (vWid_w (vVal_iff.1 HV.out).1 hi).1) (fun i hi => HVR.out i (by have := (vVal_iff.1 HV.out).2.1; omega)) n
    have hnk : ¬ (k : Int) < (ns.length : Int) := by omega
    obtain ⟨s, hse⟩ : ∃ s, s = usedL vs ns k := ⟨_, rfl⟩
    rw [← hse] at HRW HPOS hur ⊢
    clear hse hke
    by_cases hs0 : s = 0
    · have Hno := Lib.hid (show R = 0 by rw [HRW.out, if_pos hs0])
      subst hs0
      go_wp2
      go_ret
      exact ⟨ret_int Hno.out.symm, HB.out⟩
    have hs1 : (s == 0) = false := beq_f hs0
    have hp := HPOS.out hs0
    have Hyes := Lib.hid (show R = (s + bvl ws vs n - 1) / bvl ws vs n by rw [HRW.out, if_neg hs0])
    go_wp2_with fail
    refine (BestUseI_any _ _ _ _ n _ _ ws vs _ HV.out (HH.out.below HB.out hh1) (by have := HB.out.size; omega) (HZ.out.below HB.out hh3) (by have := HB.out.size; omega)).mono ?_
    rintro e w4 ⟨rfl, hb⟩
    have HB4 := Lib.hid (HB.out.trans (hb.mono HB.out.size))
    obtain ⟨t, hte⟩ : ∃ t, t = bvl ws vs n := ⟨_, rfl⟩
    rw [← hte] at Hyes hp hbr ⊢
    obtain ⟨q, hqe⟩ : ∃ q, q = (s + t - 1) / t := ⟨_, rfl⟩
    have hq0 : 0 ≤ q := by rw [hqe]; exact Int.ediv_nonneg (by omega) (by omega)
    have hq1 : q ≤ s + t - 1 := by rw [hqe]; exact Int.ediv_le_self _ (by omega)
    have hqt : (s + t - 1).tdiv t = q := by rw [hqe]; exact Int.tdiv_eq_ediv_of_nonneg (by omega)
    rw [← hqe] at Hyes
    have gq : IntKind.i64.wrap q = q := IntWalk.i64_in _ (by omega)
    have ht0 : ¬ t = 0 := by omega
    have ht1 : (t == 0) = false := beq_f ht0
    have g3 : IntKind.i64.wrap (s + t) = s + t := IntWalk.i64_in _ (by omega)
    have g4 : IntKind.i64.wrap (s + t - 1) = s + t - 1 := IntWalk.i64_in _ (by omega)
    clear hte hqe hb HRW HPOS
    go_wp2
    go_ret
    exact ⟨ret_int Hyes.out.symm, HB4.out⟩
set_option maxRecDepth 100000 in
set_option maxHeartbeats 2000000 in
theorem PriceBoundS_any (l1 h1 l2 h2 l3 h3 : Nat) (W : Int) (v u z : Value) (ws ns vs : List Int) (w : World) (h : Ints w l1 h1 v ws) (hh1 : h1 ≤ w.heap.size) (hy : Ints w l2 h2 u ns) (hh2 : h2 ≤ w.heap.size) (hz : Ints w l3 h3 z vs) (hh3 : h3 ≤ w.heap.size) :
    Calls Try.prog 45 #[.int .i64 W, v, u, z] w fun e w' => e = .returned (.int .i64 (pbL W ws ns vs)) ∧ Below w.heap.size w w' := by
  obtain ⟨A, c, rfl, hc, hm⟩ := h.form
  obtain ⟨B, d, rfl, hd, hm2⟩ := hy.form
  obtain ⟨C, d3, rfl, hd3, hm3⟩ := hz.form
  obtain ⟨R, hR⟩ : ∃ R, R = pbL W ws ns vs := ⟨_, rfl⟩
  rw [← hR]
  have HR := Lib.hid hR
  have HH := Lib.hid h
  have HY := Lib.hid hy
  have HZ := Lib.hid hz
  clear hR h hy hz
  go_enter Try.func45, Try.ntmps45
  go_wp2_with fail
  refine (validWants_any _ _ _ _ W _ _ ws ns w HH.out HY.out).mono ?_
  rintro e x1 ⟨rfl, q1⟩
  have HB1 := Lib.hid (q1.below w.heap.size)
  clear q1
  cases y1 : vWan W ws ns
  · have Hno := Lib.hid (show R = -1 by rw [HR.out]; exact pbL_no1 y1)
    go_wp2
    go_ret
    exact ⟨ret_int Hno.out.symm, HB1.out⟩
  have HN := Lib.hid y1
  clear y1
  go_wp2_with fail
  refine (validValuesS_any _ _ _ _ W _ _ ws vs x1 (HH.out.below HB1.out hh1) (HZ.out.below HB1.out hh3)).mono ?_
  rintro e x2 ⟨rfl, q2⟩
  have HB2 := Lib.hid (HB1.out.trans (q2.below w.heap.size))
  clear q2
  cases y2 : vVal W ws vs
  · have Hno := Lib.hid (show R = -1 by rw [HR.out]; exact pbL_no2 y2)
    go_wp2
    go_ret
    exact ⟨ret_int Hno.out.symm, HB2.out⟩
  have HV := Lib.hid y2
  clear y2 HB1
  have hwd := vWid_iff.1 (vVal_iff.1 HV.out).1
  obtain ⟨n, rfl⟩ := Int.eq_ofNat_of_zero_le (show 0 ≤ W by omega)
  have hn60 : n ≤ 60 := by omega
  have hns : ns.length ≤ 6 := by have := (vWan_iff.1 HN.out).2.1; omega
  have HNL := Lib.hid (show ns.length = vs.length by have := (vWan_iff.1 HN.out).2.1; have := (vVal_iff.1 HV.out).2.1; omega)
  have HNR := Lib.hid (vWan_iff.1 HN.out).2.2.1
  have HVR := Lib.hid (vVal_iff.1 HV.out).2.2
  clear hwd
  go_wp2_with fail
  refine (used_any _ _ _ _ _ _ vs ns x2 (HZ.out.below HB2.out hh3) (HY.out.below HB2.out hh2) (by have := HNL.out; omega) (by omega) (fun i hi => by
    have h1 := HNR.out i hi
    have h2 := HVR.out i (by have := HNL.out; omega)
    omega)).mono ?_
  rintro e x3 ⟨rfl, q3⟩
  have HB3 := Lib.hid (HB2.out.trans (q3.below w.heap.size))
  clear q3 HB2
  have hur := used_rngP HN.out HV.out (k := ns.length) (Nat.le_refl _)
  have HRW := Lib.hid (show R = if usedL vs ns ns.length = 0 then 0 else (usedL vs ns ns.length + bvl ws vs n - 1) / bvl ws vs n by
    rw [HR.out]
    unfold pbL
    rw [if_pos ⟨HN.out, HV.out⟩]; rfl)
  have HPOS := Lib.hid (show ¬ usedL vs ns ns.length = 0 → 0 < bvl ws vs n from fun hs => best_pos HN.out HV.out hs)
  have hbr := bvl_100 (ws := ws) (vs := vs) (fun i hi => (vWid_w (vVal_iff.1 HV.out).1 hi).1) (fun i hi => HVR.out i (by have := (vVal_iff.1 HV.out).2.1; omega)) n
  obtain ⟨s, hse⟩ : ∃ s, s = usedL vs ns ns.length := ⟨_, rfl⟩
  rw [← hse] at HRW HPOS hur ⊢
  clear hse
  by_cases hs0 : s = 0
  · have Hno := Lib.hid (show R = 0 by rw [HRW.out, if_pos hs0])
    subst hs0
    go_wp2
    go_ret
    exact ⟨ret_int Hno.out.symm, HB3.out⟩
  have hs1 : (s == 0) = false := beq_f hs0
  have hp := HPOS.out hs0
  have Hyes := Lib.hid (show R = (s + bvl ws vs n - 1) / bvl ws vs n by rw [HRW.out, if_neg hs0])
  go_wp2_with fail
  refine (bestUseS_any _ _ _ _ n _ _ ws vs _ HV.out (HH.out.below HB3.out hh1) (by have := HB3.out.size; omega) (HZ.out.below HB3.out hh3) (by have := HB3.out.size; omega)).mono ?_
  rintro e w4 ⟨v4, rfl, ho, hb⟩
  have HB4 := Lib.hid (HB3.out.trans (hb.mono HB3.out.size))
  obtain ⟨Ao, co, rfl, hco, hco2⟩ := ho.form
  obtain ⟨g, hg, _, _, cz, fz, _⟩ := ho.at_ (i := n) (by simp)
  subst hg
  rw [gi_map_range (Nat.lt_succ_self n)] at cz
  simp only [List.length_map, List.length_range] at ho hco ⊢
  obtain ⟨t, hte⟩ : ∃ t, t = bvl ws vs n := ⟨_, rfl⟩
  rw [← hte] at Hyes hp hbr cz
  obtain ⟨q, hqe⟩ : ∃ q, q = (s + t - 1) / t := ⟨_, rfl⟩
  have hq0 : 0 ≤ q := by rw [hqe]; exact Int.ediv_nonneg (by omega) (by omega)
  have hq1 : q ≤ s + t - 1 := by rw [hqe]; exact Int.ediv_le_self _ (by omega)
  have hqt : (s + t - 1).tdiv t = q := by rw [hqe]; exact Int.tdiv_eq_ediv_of_nonneg (by omega)
  rw [← hqe] at Hyes
  have gq : IntKind.i64.wrap q = q := IntWalk.i64_in _ (by omega)
  have ht0 : ¬ t = 0 := by omega
  have ht1 : (t == 0) = false := beq_f ht0
  have n0 : (0 : Int) ≤ (n : Int) := by omega
  have n1 : (n : Int) < (n : Int) + 1 := by omega
  have n2 : n < n + 1 := by omega
  have g3 : IntKind.i64.wrap (s + t) = s + t := IntWalk.i64_in _ (by omega)
  have g4 : IntKind.i64.wrap (s + t - 1) = s + t - 1 := IntWalk.i64_in _ (by omega)
  clear hte hqe hb HRW HPOS ho
  go_wp2
  go_ret
  exact ⟨ret_int Hyes.out.symm, HB4.out⟩
end Go.Proofs.Yteckjiaaikdghaa
