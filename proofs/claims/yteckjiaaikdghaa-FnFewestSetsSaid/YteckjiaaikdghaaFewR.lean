/-
  Lemmas and contracts of single functions of this program, used by the proofs of its laws: what each call returns and what becomes of memory. Conditions: the hypotheses of each theorem.
-/
import Derived.Test.YteckjiaaikdghaaLawR4
namespace Go.Proofs.Yteckjiaaikdghaa
open Go.RowKit
attribute [local go_sem ↓] Go.wp_at_zero Go.wp_at_succ

set_option maxRecDepth 100000 in
set_option maxHeartbeats 2000000 in
theorem countsAt_any (l1 h1 : Nat) (v : Value) (ns : List Int) (q : Nat) (w : World) (h : Ints w l1 h1 v ns) (hh1 : h1 ≤ w.heap.size) (hn : ns.length ≤ 6) (hr : ∀ i, 0 ≤ gi ns i ∧ gi ns i ≤ 20) (hq : q ≤ 1000) :
    Calls Try.prog 77 #[.int .i64 q, v] w fun e w' => ∃ v', e = .returned v' ∧ OwnI w' w.heap.size 3 v' (cAt ns q) ∧ Below w.heap.size w w' := by
  obtain ⟨A, c, rfl, hc, hm⟩ := h.form
  obtain ⟨n, hne⟩ : ∃ n, n = ns.length := ⟨_, rfl⟩
  have HN := Lib.hid hne
  have hn6 : n ≤ 6 := by omega
  have hnl : (ns.length : Int) = (n : Int) := by omega
  have HR := Lib.hid hr
  have HQ := Lib.hid (fun k => nAt_nn (ns := ns) (fun i => (hr i).1) (show (0 : Int) ≤ (q : Int) by omega) k)
  have HH := Lib.hid h
  obtain ⟨RR, hRR⟩ : ∃ R, R = cAt ns q := ⟨_, rfl⟩
  rw [← hRR]
  have HRR := Lib.hid (show RR = (List.range n).map (dAt ns q) by rw [hRR, hne]; rfl)
  clear hRR hne hn hr h
  go_enter Try.func77, Try.ntmps77
  go_wp2_with (at_make; refine wpList_makeI SlI _ rfl _ _ rfl w.heap.size n rfl rfl (by omega) (Nat.le_refl _) ?_; intro w2 ho2 hb2 hs2)
  have HO0 := Lib.hid ho2
  have HB0 := Lib.hid hb2
  clear ho2 hb2
  go_wp2
  go_loopw [0, 6, 7, 13] (fun x _ _ i wr => ∃ k : Nat, k ≤ n ∧ i = .int .i64 k ∧ x = .int .i64 (nAt ns q k) ∧ Hid (OwnI wr w.heap.size 3 (.slice (some ⟨w.heap.size, 0, none⟩) n n) ((List.range n).map fun i => if i < k then dAt ns q i else 0)) ∧ Hid (Below w.heap.size w wr)) (fun _ _ _ i _ => n - (intOf i).toNat)
  case atStart => exact ⟨0, Nat.zero_le _, rfl, rfl, by
    have e : List.replicate n (0 : Int) = (List.range n).map fun i => if i < 0 then dAt ns q i else 0 := by
      apply List.ext_getElem
      · simp
      · intro i h1 h2; simp
    rw [← e]; exact HO0.out, HB0.out⟩
  case round =>
    obtain ⟨k, hk, rfl, rfl, HO, HB⟩ := hrel
    clear HO0 HB0
    by_cases hlt : k < n
    rotate_left
    · have hnk : ¬ (k : Int) < (n : Int) := by omega
      have HF := Lib.hid (show OwnI wr w.heap.size 3 (.slice (some ⟨w.heap.size, 0, none⟩) n n) RR by
        rw [HRR.out]
        have e : ((List.range n).map fun i => if i < k then dAt ns q i else 0) = (List.range n).map (dAt ns q) := List.map_congr_left fun i hi => by
          have := List.mem_range.1 hi
          rw [if_pos (by omega)]
        rw [← e]; exact HO.out)
      go_wp2
      go_ret
      exact ⟨_, rfl, HF.out, HB.out⟩
    obtain ⟨b, o, hA, _, _, cb, _⟩ := (HH.out.below HB.out hh1).cell (k := k) (by have := HN.out; omega)
    subst hA
    have hm := HR.out k
    have hx := HQ.out k
    have HS := Lib.hid (show nAt ns q (k + 1) = nAt ns q k / (gi ns k + 1) from rfl)
    have HD := Lib.hid (show dAt ns q k = nAt ns q k % (gi ns k + 1) from rfl)
    have HDR := dAt_rng (ns := ns) (fun i => (HR.out i).1) q k
    obtain ⟨m, hme⟩ : ∃ m, m = gi ns k := ⟨_, rfl⟩
    obtain ⟨x, hxe⟩ : ∃ x, x = nAt ns q k := ⟨_, rfl⟩
    obtain ⟨d, hde⟩ : ∃ d, d = dAt ns q k := ⟨_, rfl⟩
    obtain ⟨p, hpe⟩ : ∃ p, p = m + 1 := ⟨_, rfl⟩
    rw [← hme] at cb hm HS HD HDR
    rw [← hxe] at hx HS HD ⊢
    rw [← hde] at HD HDR
    have hmp : m + 1 = p := hpe.symm
    rw [hmp] at HS HD
    have HDE := Lib.hid hde
    have hp1 : 1 ≤ p ∧ p ≤ 21 := by omega
    have gp : IntKind.i64.wrap p = p := IntWalk.i64_in _ (by omega)
    have hrem : x.tmod p = d := by rw [HD.out]; exact Int.tmod_eq_emod_of_nonneg (by omega)
    obtain ⟨y, hye⟩ : ∃ y, y = x / p := ⟨_, rfl⟩
    have hquo : x.tdiv p = y := by rw [hye]; exact Int.tdiv_eq_ediv_of_nonneg (by omega)
    have hy0 : 0 ≤ y := by rw [hye]; exact Int.ediv_nonneg (by omega) (by omega)
    have hy1 : y ≤ x := by rw [hye]; exact Int.ediv_le_self _ (by omega)
    rw [← hye] at HS
    have gd : IntKind.i64.wrap d = d := IntWalk.i64_in _ (by omega)
    have gy : IntKind.i64.wrap y = y := IntWalk.i64_in _ (by omega)
    have p0 : ¬ p = 0 := by omega
    have p1 : (p == 0) = false := beq_f p0
    have k0 : (0 : Int) ≤ (k : Int) := by omega
    have k1 : (k : Int) < (n : Int) := by omega
    obtain ⟨g1, hg1, _, _, cw, fw, _⟩ := HO.out.at_ (i := k) (by simpa using hlt)
    simp only [Option.some.injEq, Addr.mk.injEq, and_true] at hg1
    subst hg1
    have HO2 := Lib.hid (show OwnI (wr.setCell ⟨w.heap.size, k, none⟩ (.int .i64 d)) w.heap.size 3 (.slice (some ⟨w.heap.size, 0, none⟩) n n) ((List.range n).map fun i => if i < k + 1 then dAt ns q i else 0) by
      have h9 := HO.out.setI k (x := d) ⟨by omega, by omega⟩
      rw [mapR_set (g := fun i => if i < k + 1 then dAt ns q i else 0)] at h9
      · exact h9
      · intro i hi
        by_cases hij : i = k
        · subst hij
          rw [if_pos (Nat.lt_succ_self i), if_pos rfl, HDE.out]
        · rw [if_neg hij]
          by_cases h2 : i < k
          · rw [if_pos (by omega), if_pos h2]
          · rw [if_neg (by omega), if_neg h2])
    have HB2 := Lib.hid (HB.out.setCell (p := ⟨w.heap.size, k, none⟩) (Nat.le_refl _) (.int .i64 d))
    clear hme hxe hde hpe hye HO HB
    go_wp2
    go_roundw
    case rel => exact ⟨k + 1, by omega, by go_num, by rw [HS.out], HO2.out, HB2.out⟩
    case measure => simp [intOf]; omega
set_option maxHeartbeats 1000000 in
theorem atMost_any (l1 h1 l2 h2 : Nat) (v u : Value) (ns : List Int) (q s : Int) (w : World) (h : Ints w l1 h1 v (cAt ns q)) (hy : Ints w l2 h2 u (cAt ns s)) :
    Calls Try.prog 78 #[v, u] w fun e w' => e = .returned (.bool (leN ns q s)) ∧ w = w' := by
  obtain ⟨A, c, rfl, hc, hm⟩ := h.form
  obtain ⟨B, d, rfl, hd, hm2⟩ := hy.form
  rw [cAt_len ns q] at h hc ⊢
  rw [cAt_len ns s] at hy hd ⊢
  have HA := Lib.hid (cAt_len ns q)
  have HB := Lib.hid (cAt_len ns s)
  have HH := Lib.hid h
  have HY := Lib.hid hy
  obtain ⟨R, hR⟩ : ∃ R, R = leN ns q s := ⟨_, rfl⟩
  rw [← hR]
  have HR := Lib.hid hR
  clear hR h hy
  go_enter Try.func78, Try.ntmps78
  go_wp2
  go_loop [5, 6, 9] (fun _ _ i => ∃ k : Nat, k ≤ ns.length ∧ i = .int .i64 k ∧ Hid (∀ j, j < k → dAt ns q j ≤ dAt ns s j)) (fun _ _ i => ns.length - (intOf i).toNat)
  case atStart => exact ⟨0, by omega, rfl, fun j hj => absurd hj (by omega)⟩
  case round =>
    obtain ⟨k, hk, rfl, HD⟩ := hrel
    by_cases hlt : k < ns.length
    · obtain ⟨b, o, hA, _, _, cb, _⟩ := HH.out.cell (k := k) (by have := HA.out; omega)
      obtain ⟨b2, o2, hB, _, _, cb2, _⟩ := HY.out.cell (k := k) (by have := HB.out; omega)
      subst hA hB
      rw [cAt_gi hlt] at cb cb2
      have hk0 : (0 : Int) ≤ (k : Int) := by omega
      have hk1 : (k : Int) < (ns.length : Int) := by omega
      have HNO := Lib.hid (show ¬ dAt ns q k ≤ dAt ns s k → R = false from fun hn => by
        rw [HR.out]
        cases hv : leN ns q s
        · rfl
        · exact absurd (leN_iff.1 hv k hlt) hn)
      have HYES := Lib.hid (show dAt ns q k ≤ dAt ns s k → ∀ j, j < k + 1 → dAt ns q j ≤ dAt ns s j from fun hy j hj => by
        rcases Nat.lt_or_ge j k with h' | h'
        · exact HD.out j h'
        · obtain rfl : j = k := by omega
          exact hy)
      obtain ⟨x, hx⟩ : ∃ x, x = dAt ns q k := ⟨_, rfl⟩
      obtain ⟨y, hy⟩ : ∃ y, y = dAt ns s k := ⟨_, rfl⟩
      rw [← hx] at cb HNO HYES
      rw [← hy] at cb2 HNO HYES
      clear hx hy
      by_cases y1 : x ≤ y
      · have HY2 := Lib.hid (HYES.out y1)
        have y2 : ¬ x > y := by omega
        clear HNO HYES
        go_wp2
        go_round
        case rel => exact ⟨k + 1, by omega, by go_num, HY2.out⟩
        case measure => simp [intOf]; omega
      · have Hno := Lib.hid (HNO.out y1)
        have y2 : x > y := by omega
        clear HNO HYES
        go_wp2
        go_ret
        exact ⟨ret_bool Hno.out.symm, rfl⟩
    · have hni : ¬ (k : Int) < (ns.length : Int) := by omega
      have Hyes := Lib.hid (show R = true by
        rw [HR.out]
        exact leN_iff.2 fun i hi => HD.out i (by omega))
      go_wp2
      go_ret
      exact ⟨ret_bool Hyes.out.symm, rfl⟩
theorem fwL_no1 {W : Int} {ws ns : List Int} (h : vWan W ws ns = false) : fwL W ws ns = -1 := by unfold fwL vFew; rw [h]; simp
theorem fwL_no2 {W : Int} {ws ns : List Int} (h : ¬ W ≤ 24) : fwL W ws ns = -1 := by unfold fwL vFew; rw [decide_eq_false h]; simp
theorem fwL_no3 {W : Int} {ws ns : List Int} (h : ¬ ns.sum ≤ 8) : fwL W ws ns = -1 := by unfold fwL vFew; rw [decide_eq_false h]; simp
theorem stN_256 {W : Int} {ws ns : List Int} (h : vFew W ws ns = true) {k : Nat} (hk : k ≤ ns.length) : 1 ≤ stN ns k ∧ stN ns k ≤ 256 := by
  have h0 := few_nn h
  refine ⟨stN_pos h0 k, ?_⟩
  have h1 := stN_le h0 k
  have h2 : sumI ns k ≤ ns.sum := by
    rw [← sumI_all]
    obtain ⟨m, hm⟩ : ∃ m, ns.length = k + m := ⟨ns.length - k, by omega⟩
    rw [hm]
    clear hm hk h1
    induction m with
    | zero => exact Int.le_refl _
    | succ m ih => have := h0 (k + m); show _ ≤ sumI ns (k + m) + gi ns (k + m); omega
  have h3 := (vFew_iff.1 h).2.2
  have h4 : (2 : Int) ^ (sumI ns k).toNat ≤ 256 := (by decide : ∀ m : Fin 9, (2 : Int) ^ (m : Nat) ≤ 256) ⟨(sumI ns k).toNat, by omega⟩
  omega
theorem okN_eq {W : Int} {ws ns : List Int} (q s : Int) : okN W ws ns q s = (leN ns q s && vPat W ws (cAt ns q)) := rfl
set_option maxRecDepth 100000 in
set_option maxHeartbeats 4000000 in
theorem FewestSetsI_any (l1 h1 l2 h2 : Nat) (W : Int) (v u : Value) (ws ns : List Int) (w : World) (h : Ints w l1 h1 v ws) (hh1 : h1 ≤ w.heap.size) (hy : Ints w l2 h2 u ns) (hh2 : h2 ≤ w.heap.size) :
    Calls Try.prog 40 #[.int .i64 W, v, u] w fun e w' => e = .returned (.int .i64 (fwL W ws ns)) ∧ Below w.heap.size w w' := by
  obtain ⟨A, c, rfl, hc, hm⟩ := h.form
  obtain ⟨B, d, rfl, hd, hm2⟩ := hy.form
  obtain ⟨R, hR⟩ : ∃ R, R = fwL W ws ns := ⟨_, rfl⟩
  rw [← hR]
  have HR := Lib.hid hR
  have HH := Lib.hid h
  have HY := Lib.hid hy
  clear hR h hy
  go_enter Try.func40, Try.ntmps40
  go_wp2_with fail
  refine (ValidWants_any _ _ _ _ W _ _ ws ns w HH.out HY.out).mono ?_
  rintro e x1 ⟨rfl, hx1⟩
  subst hx1
  cases y1 : vWan W ws ns
  · have Hno := Lib.hid (show R = -1 by rw [HR.out]; exact fwL_no1 y1)
    go_wp2
    go_ret
    exact ⟨ret_int Hno.out.symm, Below.refl _ _⟩
  have HN := Lib.hid y1
  clear y1
  by_cases hW : W ≤ 24
  rotate_left
  · have Hno := Lib.hid (show R = -1 by rw [HR.out]; exact fwL_no2 hW)
    have hW2 : W > 24 := by omega
    go_wp2
    go_ret
    exact ⟨ret_int Hno.out.symm, Below.refl _ _⟩
  have hW2 : ¬ W > 24 := by omega
  have hwn := vWan_iff.1 HN.out
  have hns : ns.length ≤ 6 := by have := (vWid_iff.1 hwn.1).2.2.2.1; omega
  have HNS := Lib.hid (show ∀ i, i < ns.length → 0 ≤ gi ns i ∧ gi ns i ≤ 1000 from fun i hi => by have := hwn.2.2.1 i hi; omega)
  clear hwn
  go_wp2_with fail
  refine (sumOf_any _ _ _ ns w HY.out (by omega) HNS.out).mono ?_
  rw [sumI_all]
  rintro e x1 ⟨rfl, hx1⟩
  subst hx1
  by_cases h8 : ns.sum ≤ 8
  rotate_left
  · have Hno := Lib.hid (show R = -1 by rw [HR.out]; exact fwL_no3 h8)
    have h82 : ns.sum > 8 := by omega
    go_wp2
    go_ret
    exact ⟨ret_int Hno.out.symm, Below.refl _ _⟩
  have h82 : ¬ ns.sum > 8 := by omega
  have HF := Lib.hid (show vFew W ws ns = true from vFew_iff.2 ⟨HN.out, hW, h8⟩)
  have HST := Lib.hid (fun k hk => stN_256 HF.out (k := k) hk)
  have HNN := Lib.hid (show ∀ i, 0 ≤ gi ns i ∧ gi ns i ≤ 20 from fun i => by
    have h1 := few_nn HF.out i
    refine ⟨h1, ?_⟩
    by_cases hi : i < ns.length
    · exact ((vWan_iff.1 HN.out).2.2.1 i hi).2
    · have : gi ns i = 0 := by unfold gi; rw [List.getD_eq_getElem?_getD, List.getElem?_eq_none (by omega)]; rfl
      omega)
  obtain ⟨n, hne⟩ : ∃ n, n = ns.length := ⟨_, rfl⟩
  have hnl : ns.length = n := hne.symm
  have HNL := Lib.hid hnl
  have HYn := Lib.hid (show Ints w l2 h2 (.slice B n d) ns by rw [hne]; exact HY.out)
  clear h8 hne
  rw [hnl] at hns hd ⊢
  clear hnl HY
  go_wp2
  go_loop [7, 9, 31] (fun s _ i => ∃ k : Nat, k ≤ n ∧ i = .int .i64 k ∧ s = .int .i64 (stN ns k)) (fun _ _ i => n - (intOf i).toNat)
  case atStart => exact ⟨0, Nat.zero_le _, rfl, rfl⟩
  case round =>
    obtain ⟨k, hk, rfl, rfl⟩ := hrel
    have hsr := HST.out k (by have := HNL.out; omega)
    by_cases hlt : k < n
    · obtain ⟨b, o, hA, _, _, cb, _⟩ := HYn.out.cell (k := k) (by have := HNL.out; omega)
      subst hA
      have hm := HNN.out k
      have hs2 := HST.out (k + 1) (by have := HNL.out; omega)
      have HS := Lib.hid (show stN ns (k + 1) = stN ns k * (gi ns k + 1) from rfl)
      rw [HS.out] at hs2
      obtain ⟨m, hme⟩ : ∃ m, m = gi ns k := ⟨_, rfl⟩
      obtain ⟨s, hse⟩ : ∃ s, s = stN ns k := ⟨_, rfl⟩
      obtain ⟨p, hpe⟩ : ∃ p, p = m + 1 := ⟨_, rfl⟩
      rw [← hme] at cb hm HS hs2
      rw [← hse] at hsr HS hs2 ⊢
      rw [← hpe] at HS hs2
      have hmp : m + 1 = p := hpe.symm
      have gp : IntKind.i64.wrap p = p := IntWalk.i64_in _ (by omega)
      have gs : IntKind.i64.wrap (s * p) = s * p := IntWalk.i64_in _ (by omega)
      have k0 : (0 : Int) ≤ (k : Int) := by omega
      have k1 : (k : Int) < (n : Int) := by omega
      clear hme hse hpe hs2 hsr
      go_wp2
      go_round
      case rel => exact ⟨k + 1, by omega, by go_num, by rw [HS.out]⟩
      case measure => simp [intOf]; omega
    have hke : k = n := by omega
    have hni : ¬ (k : Int) < (n : Int) := by omega
    obtain ⟨S, hS⟩ := Int.eq_ofNat_of_zero_le (show 0 ≤ stN ns k by omega)
    have HS := Lib.hid (show stN ns ns.length = (S : Int) by rw [HNL.out, ← hke]; exact hS)
    rw [hS] at hsr ⊢
    have hS1 : 1 ≤ S := by omega
    have hS2 : S ≤ 256 := by omega
    have HRF := Lib.hid (show R = fwN W ws ns (S - 1) by
      rw [HR.out]; unfold fwL; rw [if_pos HF.out, HS.out]; congr 1; omega)
    have HFR := Lib.hid (fwN_rng W ws ns)
    clear hS hke hsr
    go_wp2_with (at_make; refine wpList_makeI SlI _ rfl _ _ rfl w.heap.size S rfl rfl (by omega) (Nat.le_refl _) ?_; intro w2 ho2 hb2 hs2)
    have HO0 := Lib.hid ho2
    have HB0 := Lib.hid hb2
    clear ho2 hb2
    have hz0 : w.heap.size < w2.heap.size := (HO0.out.lt w.heap.size rfl).2
    go_wp2
    go_loopw [11, 12, 13, 14] (fun i _ _ _ wr => ∃ k : Nat, 1 ≤ k ∧ k ≤ S ∧ i = .int .i64 k ∧ Hid (OwnI wr w.heap.size 3 (.slice (some ⟨w.heap.size, 0, none⟩) S S) ((List.range S).map fun j => if j < k then fwN W ws ns j else 0)) ∧ Hid (Below w.heap.size w wr) ∧ w.heap.size < wr.heap.size) (fun i _ _ _ _ => S - (intOf i).toNat)
    case atStart => exact ⟨1, Nat.le_refl _, hS1, rfl, by
      have e : List.replicate S (0 : Int) = (List.range S).map fun j => if j < 1 then fwN W ws ns j else 0 := by
        apply List.ext_getElem
        · simp
        · intro i h1 h2
          simp only [List.getElem_replicate, List.getElem_map, List.getElem_range]
          split
          · obtain rfl : i = 0 := by omega
            rfl
          · rfl
      rw [← e]; exact HO0.out, HB0.out, hz0⟩
    case round =>
      obtain ⟨k, hk1, hk, rfl, HO, HB, hzr⟩ := hrel
      clear HO0 HB0 hz0
      by_cases hlt : k < S
      rotate_left
      · have hnk : ¬ (k : Int) < (S : Int) := by omega
        obtain ⟨g1, hg1, _, _, cw, fw, _⟩ := HO.out.at_ (i := S - 1) (by simp; omega)
        simp only [Option.some.injEq, Addr.mk.injEq, and_true] at hg1
        subst hg1
        rw [gi_map_range (show S - 1 < S by omega), if_pos (show S - 1 < k by omega), ← HRF.out] at cw
        obtain ⟨T, hT⟩ : ∃ T, T = S - 1 := ⟨_, rfl⟩
        rw [← hT] at cw
        have hT1 : (S : Int) - 1 = (T : Int) := by omega
        have gT : IntKind.i64.wrap (T : Int) = (T : Int) := IntWalk.i64_in _ (by omega)
        have t0 : (0 : Int) ≤ (T : Int) := by omega
        have t1 : (T : Int) < (S : Int) := by omega
        clear hT
        go_wp2
        go_ret
        exact ⟨rfl, HB.out⟩
      have hlt1 : (k : Int) < (S : Int) := by omega
      go_wp2_with fail
      refine (countsAt_any _ _ _ ns k _ (HYn.out.below HB.out hh2) (by have := HB.out.size; omega) (by have := HNL.out; omega) HNN.out (by omega)).mono ?_
      rintro e w3 ⟨v3, rfl, o3, b3⟩
      obtain ⟨A3, c3, rfl, hc3, hm3⟩ := o3.form
      rw [cAt_len] at hc3 ⊢
      have hz3 := b3.size
      have HC3 := Lib.hid (show Ints w3 (w.heap.size + 1) w3.heap.size (.slice A3 n c3) (cAt ns k) by
        have := o3.ints.wide (show w.heap.size + 1 ≤ wr.heap.size by omega) (Nat.le_refl _)
        rw [cAt_len, HNL.out] at this; exact this)
      have hc3' : n ≤ c3 := by have := HNL.out; omega
      rw [HNL.out]
      have HO3 := Lib.hid (HO.out.kept (.of_below b3 (Nat.le_refl _)))
      have HB3 := Lib.hid (HB.out.trans (b3.mono (Nat.le_of_lt hzr)))
      obtain ⟨g1, hg1, _, _, cw, fw, _⟩ := HO3.out.at_ (i := k) (by simp; omega)
      simp only [Option.some.injEq, Addr.mk.injEq, and_true] at hg1
      subst hg1
      have k0 : (0 : Int) ≤ (k : Int) := by omega
      have HO4 := Lib.hid (show OwnI (w3.setCell ⟨w.heap.size, k, none⟩ (.int .i64 8)) w.heap.size 3 (.slice (some ⟨w.heap.size, 0, none⟩) S S) ((List.range S).map fun j => if j < k then fwN W ws ns j else if j = k then inG W ws ns (fwN W ws ns) k 0 else 0) by
        have h9 := HO3.out.setI k (x := 8) ⟨by omega, by omega⟩
        rw [mapR_set (g := fun j => if j < k then fwN W ws ns j else if j = k then inG W ws ns (fwN W ws ns) k 0 else 0)] at h9
        · exact h9
        · intro i hi
          by_cases hij : i = k
          · subst hij
            rw [if_neg (Nat.lt_irrefl i), if_pos rfl, if_pos rfl]; rfl
          · rw [if_neg hij, if_neg hij])
      have HB4 := Lib.hid (HB3.out.setCell (p := ⟨w.heap.size, k, none⟩) (Nat.le_refl _) (.int .i64 8))
      have HC4 := Lib.hid (show Ints (w3.setCell ⟨w.heap.size, k, none⟩ (.int .i64 8)) (w.heap.size + 1) w3.heap.size (.slice A3 n c3) (cAt ns k) from HC3.out.kept fun j h1 h2 => Below.heap_setCell _ _ _ _ (by show j ≠ w.heap.size; omega))
      clear o3 b3 HO HB HO3 HB3 HC3
      go_wp2
      go_loopw [13, 14] (fun i _ wx => ∃ m : Nat, m ≤ k ∧ i = .int .i64 ((m : Int) + 1) ∧ Hid (OwnI wx w.heap.size 3 (.slice (some ⟨w.heap.size, 0, none⟩) S S) ((List.range S).map fun j => if j < k then fwN W ws ns j else if j = k then inG W ws ns (fwN W ws ns) k m else 0)) ∧ Hid (Below w.heap.size w wx) ∧ Hid (Ints wx (w.heap.size + 1) w3.heap.size (.slice A3 n c3) (cAt ns k)) ∧ w3.heap.size ≤ wx.heap.size) (fun i _ _ => k + 1 - (intOf i).toNat)
      case atStart => exact ⟨0, Nat.zero_le _, rfl, HO4.out, HB4.out, HC4.out, by simp [World.setCell]⟩
      case round =>
        obtain ⟨m, hm9, rfl, HOx, HBx, HCx, hzx⟩ := hrel
        clear HO4 HB4 HC4
        obtain ⟨wx, rfl⟩ : ∃ wx : World, wx = wr := ⟨_, rfl⟩
        by_cases hmk : m < k
        rotate_left
        · have hnm : ¬ (m : Int) + 1 ≤ (k : Int) := by omega
          have HF2 := Lib.hid (show OwnI wx w.heap.size 3 (.slice (some ⟨w.heap.size, 0, none⟩) S S) ((List.range S).map fun j => if j < k + 1 then fwN W ws ns j else 0) by
            have e : ((List.range S).map fun j => if j < k then fwN W ws ns j else if j = k then inG W ws ns (fwN W ws ns) k m else 0) = (List.range S).map fun j => if j < k + 1 then fwN W ws ns j else 0 := List.map_congr_left fun i _ => by
              by_cases h1 : i < k
              · rw [if_pos h1, if_pos (by omega)]
              · rw [if_neg h1]
                by_cases h2 : i = k
                · subst h2
                  rw [if_pos rfl, if_pos (by omega), fwN_eq (by omega)]
                  have : m = i := by omega
                  rw [this]
                · rw [if_neg h2, if_neg (by omega)]
            rw [← e]; exact HOx.out)
          go_wp2
          go_roundw
          case rel => exact ⟨k + 1, by omega, by omega, by go_num, HF2.out, HBx.out, by omega⟩
          case measure => simp [intOf]; omega
        have hmk1 : (m : Int) + 1 ≤ (k : Int) := by omega
        obtain ⟨M, hM⟩ : ∃ M, M = m + 1 := ⟨_, rfl⟩
        have hM1 : (m : Int) + 1 = (M : Int) := by omega
        rw [hM1] at hmk1 ⊢
        clear hM1
        have HM := Lib.hid hM
        have hM2 : 1 ≤ M := by omega
        have hM3 : M ≤ k := by omega
        clear hM hmk
        go_wp2_with fail
        refine (countsAt_any _ _ _ ns M _ (HYn.out.below HBx.out hh2) (by have := HBx.out.size; omega) (by have := HNL.out; omega) HNN.out (by omega)).mono ?_
        rintro e w5 ⟨v5, rfl, o5, b5⟩
        obtain ⟨A5, c5, rfl, hc5, hm5⟩ := o5.form
        rw [cAt_len] at hc5 ⊢
        have hz5 := b5.size
        have HC5 := Lib.hid (show Ints w5 (w.heap.size + 1) w5.heap.size (.slice A5 n c5) (cAt ns M) by
          have := o5.ints.wide (show w.heap.size + 1 ≤ wx.heap.size by omega) (Nat.le_refl _)
          rw [cAt_len, HNL.out] at this; exact this)
        have hc5' : n ≤ c5 := by have := HNL.out; omega
        rw [HNL.out]
        have HO5 := Lib.hid (HOx.out.kept (.of_below b5 (Nat.le_refl _)))
        have HB5 := Lib.hid (HBx.out.trans (b5.mono (by omega)))
        have HK5 := Lib.hid (HCx.out.below b5 hzx)
        clear o5 b5 HOx HBx HCx
        have HSN := Lib.hid (show inG W ws ns (fwN W ws ns) k (m + 1) = if (leN ns M k && vPat W ws (cAt ns M)) = true then min (inG W ws ns (fwN W ws ns) k m) (1 + fwN W ws ns (k - M)) else inG W ws ns (fwN W ws ns) k m by rw [HM.out]; rfl)
        have HSKIP := Lib.hid (show (leN ns M k && vPat W ws (cAt ns M)) = false → OwnI w5 w.heap.size 3 (.slice (some ⟨w.heap.size, 0, none⟩) S S) ((List.range S).map fun j => if j < k then fwN W ws ns j else if j = k then inG W ws ns (fwN W ws ns) k (m + 1) else 0) from fun hf => by
          have e : inG W ws ns (fwN W ws ns) k (m + 1) = inG W ws ns (fwN W ws ns) k m := by rw [HSN.out, hf]; simp
          rw [e]; exact HO5.out)
        go_wp2_with fail
        refine (atMost_any _ _ _ _ _ _ ns M k w5 HC5.out HK5.out).mono ?_
        rintro e x6 ⟨rfl, hx6⟩
        subst hx6
        cases z1 : leN ns M k
        · have HO6 := Lib.hid (HSKIP.out (by rw [z1]; rfl))
          clear HSKIP HSN
          go_wp2
          go_roundw
          case rel => exact ⟨m + 1, by have := HM.out; omega, by have := HM.out; go_num, HO6.out, HB5.out, HK5.out, by omega⟩
          case measure => have := HM.out; simp [intOf]; omega
        go_wp2_with fail
        refine (ValidPattern_any _ _ _ _ W _ _ ws (cAt ns M) w5 (HH.out.below HB5.out hh1) HC5.out).mono ?_
        rintro e x6 ⟨rfl, hx6⟩
        subst hx6
        cases z2 : vPat W ws (cAt ns M)
        · have HO6 := Lib.hid (HSKIP.out (by rw [z1, z2]; rfl))
          clear HSKIP HSN
          go_wp2
          go_roundw
          case rel => exact ⟨m + 1, by have := HM.out; omega, by have := HM.out; go_num, HO6.out, HB5.out, HK5.out, by omega⟩
          case measure => have := HM.out; simp [intOf]; omega
        have HS2 := Lib.hid (show inG W ws ns (fwN W ws ns) k (m + 1) = min (inG W ws ns (fwN W ws ns) k m) (1 + fwN W ws ns (k - M)) by rw [HSN.out, z1, z2]; rfl)
        clear HSKIP HSN z1 z2
        obtain ⟨g1, hg1, _, _, cw, fw, _⟩ := HO5.out.at_ (i := k) (by simp; omega)
        simp only [Option.some.injEq, Addr.mk.injEq, and_true] at hg1
        subst hg1
        rw [gi_map_range hlt, if_neg (Nat.lt_irrefl k), if_pos rfl] at cw
        obtain ⟨dd, hdd⟩ : ∃ dd : Nat, dd = k - M := ⟨_, rfl⟩
        have hd1 : (k : Int) - (M : Int) = (dd : Int) := by omega
        have hdk : dd < k := by omega
        have gd : IntKind.i64.wrap (dd : Int) = (dd : Int) := IntWalk.i64_in _ (by omega)
        obtain ⟨g2, hg2, _, _, cz, fz, _⟩ := HO5.out.at_ (i := dd) (by simp; omega)
        simp only [Option.some.injEq, Addr.mk.injEq, and_true] at hg2
        subst hg2
        rw [gi_map_range (show dd < S by omega), if_pos hdk] at cz
        have hfr := HFR.out dd
        have hir := inG_rng (W := W) (ws := ws) (ns := ns) (f := fwN W ws ns) (s := k) (fun j _ => (HFR.out j).1) (by omega) m
        rw [← hdd] at HS2
        obtain ⟨a, hae⟩ : ∃ a, a = inG W ws ns (fwN W ws ns) k m := ⟨_, rfl⟩
        obtain ⟨z, hze⟩ : ∃ z, z = fwN W ws ns dd := ⟨_, rfl⟩
        rw [← hae] at cw hir HS2
        rw [← hze] at cz hfr HS2
        obtain ⟨t, ht⟩ : ∃ t, t = min a (1 + z) := ⟨_, rfl⟩
        have hmin : min a (1 + z) = t := ht.symm
        have htr : 0 ≤ t ∧ t ≤ 100 := by omega
        have gz : IntKind.i64.wrap (1 + z) = 1 + z := IntWalk.i64_in _ (by omega)
        have d0 : (0 : Int) ≤ (dd : Int) := by omega
        have d1 : (dd : Int) < (S : Int) := by omega
        have d2 : dd < S := by omega
        have HO6 := Lib.hid (show OwnI (w5.setCell ⟨w.heap.size, k, none⟩ (.int .i64 t)) w.heap.size 3 (.slice (some ⟨w.heap.size, 0, none⟩) S S) ((List.range S).map fun j => if j < k then fwN W ws ns j else if j = k then inG W ws ns (fwN W ws ns) k (m + 1) else 0) by
          have h9 := HO5.out.setI k (x := t) ⟨by omega, by omega⟩
          rw [mapR_set (g := fun j => if j < k then fwN W ws ns j else if j = k then inG W ws ns (fwN W ws ns) k (m + 1) else 0)] at h9
          · exact h9
          · intro i hi
            by_cases hij : i = k
            · subst hij
              rw [if_neg (Nat.lt_irrefl i), if_pos rfl, if_pos rfl, HS2.out, hmin]
            · rw [if_neg hij, if_neg hij, if_neg hij])
        have HB6 := Lib.hid (HB5.out.setCell (p := ⟨w.heap.size, k, none⟩) (Nat.le_refl _) (.int .i64 t))
        have HK6 := Lib.hid (show Ints (w5.setCell ⟨w.heap.size, k, none⟩ (.int .i64 t)) (w.heap.size + 1) w3.heap.size (.slice A3 n c3) (cAt ns k) from HK5.out.kept fun j h1 h2 => Below.heap_setCell _ _ _ _ (by show j ≠ w.heap.size; omega))
        have hz6 : w3.heap.size ≤ (w5.setCell ⟨w.heap.size, k, none⟩ (.int .i64 t)).heap.size := by simp only [World.setCell, Array.size_modify]; omega
        have HZ6 := Lib.hid hz6
        clear hze hae hdd ht HS2 HO5 HB5 HK5 hz6 HC5
        go_wp2
        refine wp_region_last (S := fun w' => w'.cell? ⟨w.heap.size, k, none⟩ = some (.int .i64 a) ∧ w'.cell? ⟨w.heap.size, dd, none⟩ = some (.int .i64 z)) 15 (by kernel_rfl) ?_ (fun hHeld => ?_)
        · (first | (try dsimp only); go_keep | (go_split_ands; refine ⟨?_, ?_⟩ <;> first | exact keepB bx5 (by assumption) | exact keepB bx4 (by assumption) | exact keepB bx3 (by assumption) | exact keepB bx2 (by assumption) | exact keepB bx1 (by assumption) | exact keepO bo5 (by first | (simp; done) | (simp; omega)) (by assumption) | exact keepO bo4 (by first | (simp; done) | (simp; omega)) (by assumption) | exact keepO bo3 (by first | (simp; done) | (simp; omega)) (by assumption) | exact keepO bo2 (by first | (simp; done) | (simp; omega)) (by assumption) | exact keepO bo1 (by first | (simp; done) | (simp; omega)) (by assumption) | exact keepW bg2 (by first | (simp; done) | (simp; omega)) (by assumption) | exact keepW bg1 (by first | (simp; done) | (simp; omega)) (by assumption) | assumption))
        refine AnyL.take (i := 0) (oi := ⟨some 70, _, _, _, _, _⟩) (v := _) rfl (by kernel_rfl) (by kernel_rfl) (by kernel_rfl) (by kernel_rfl) (fun _ _ _ h => h) (Or.inl ⟨by kernel_rfl, by intro w hSw; (try dsimp only at hSw); go_simp; try with_reducible rfl⟩) (by assumption) ?_
        simp only [Act.put, List.setIfInBounds_toArray, List.set_cons_zero, List.set_cons_succ]
        refine AnyL.take (i := 1) (oi := ⟨some 71, _, _, _, _, _⟩) (v := _) rfl (by kernel_rfl) (by kernel_rfl) (by kernel_rfl) (by kernel_rfl) (fun _ _ _ h => h) (Or.inl ⟨by kernel_rfl, by intro w hSw; (try dsimp only at hSw); go_simp; try with_reducible rfl⟩) (by assumption) ?_
        simp only [Act.put, List.setIfInBounds_toArray, List.set_cons_zero, List.set_cons_succ]
        refine AnyL.take (i := 2) (oi := ⟨some 72, _, _, _, _, _⟩) (v := _) rfl (by kernel_rfl) (by kernel_rfl) (by kernel_rfl) (by kernel_rfl) (fun _ _ _ h => h) (Or.inl ⟨by kernel_rfl, by intro w hSw; (try dsimp only at hSw); go_simp; try with_reducible rfl⟩) (by assumption) ?_
        simp only [Act.put, List.setIfInBounds_toArray, List.set_cons_zero, List.set_cons_succ]
        refine AnyL.take (i := 3) (oi := ⟨some 73, _, _, _, _, _⟩) (v := _) rfl (by kernel_rfl) (by kernel_rfl) (by kernel_rfl) (by kernel_rfl) (fun _ _ _ h => h) (Or.inl ⟨by kernel_rfl, by intro w hSw; (try dsimp only at hSw); go_simp; try with_reducible rfl⟩) (by assumption) ?_
        simp only [Act.put, List.setIfInBounds_toArray, List.set_cons_zero, List.set_cons_succ]
        refine AnyL.take (i := 4) (oi := ⟨some 74, _, _, _, _, _⟩) (v := _) rfl (by kernel_rfl) (by kernel_rfl) (by kernel_rfl) (by kernel_rfl) (fun _ _ _ h => h) (Or.inl ⟨by kernel_rfl, by intro w hSw; (try dsimp only at hSw); go_simp; try with_reducible rfl⟩) (by assumption) ?_
        simp only [Act.put, List.setIfInBounds_toArray, List.set_cons_zero, List.set_cons_succ]
        refine AnyL.take (i := 5) (oi := ⟨some 75, _, _, _, _, _⟩) (v := _) rfl (by kernel_rfl) (by kernel_rfl) (by kernel_rfl) (by kernel_rfl) (fun _ _ _ h => h) (Or.inl ⟨by kernel_rfl, by intro w hSw; (try dsimp only at hSw); go_simp; try with_reducible rfl⟩) (by assumption) ?_
        simp only [Act.put, List.setIfInBounds_toArray, List.set_cons_zero, List.set_cons_succ]
        refine AnyL.take (i := 6) (oi := ⟨some 76, _, _, _, _, _⟩) (v := _) rfl (by kernel_rfl) (by kernel_rfl) (by kernel_rfl) (by kernel_rfl) (fun _ _ _ h => h) (Or.inl ⟨by kernel_rfl, by intro w hSw; (try dsimp only at hSw); go_simp; try with_reducible rfl⟩) (by assumption) ?_
        simp only [Act.put, List.setIfInBounds_toArray, List.set_cons_zero, List.set_cons_succ]
        refine AnyL.take (i := 7) (oi := ⟨some 77, _, _, _, _, _⟩) (v := _) rfl (by kernel_rfl) (by kernel_rfl) (by kernel_rfl) (by kernel_rfl) (fun _ _ _ h => h) (Or.inl ⟨by kernel_rfl, by intro w hSw; (try dsimp only at hSw); go_simp; try with_reducible rfl⟩) (by assumption) ?_
        simp only [Act.put, List.setIfInBounds_toArray, List.set_cons_zero, List.set_cons_succ]
        refine AnyL.take (i := 8) (oi := ⟨some 78, _, _, _, _, _⟩) (v := _) rfl (by kernel_rfl) (by kernel_rfl) (by kernel_rfl) (by kernel_rfl) (fun _ _ _ h => h) (Or.inl ⟨by kernel_rfl, by intro w hSw; (try dsimp only at hSw); go_simp; try with_reducible rfl⟩) (by assumption) ?_
        simp only [Act.put, List.setIfInBounds_toArray, List.set_cons_zero, List.set_cons_succ]
        refine AnyL.take (i := 9) (oi := ⟨some 79, _, _, _, _, _⟩) (v := _) rfl (by kernel_rfl) (by kernel_rfl) (by kernel_rfl) (by kernel_rfl) (fun _ _ _ h => h) (Or.inl ⟨by kernel_rfl, by intro w hSw; (try dsimp only at hSw); go_simp; try with_reducible rfl⟩) (by assumption) ?_
        simp only [Act.put, List.setIfInBounds_toArray, List.set_cons_zero, List.set_cons_succ]
        refine AnyL.take (i := 10) (oi := ⟨some 80, _, _, _, _, _⟩) (v := _) rfl (by kernel_rfl) (by kernel_rfl) (by kernel_rfl) (by kernel_rfl) (fun _ _ _ h => h) (Or.inl ⟨by kernel_rfl, by intro w hSw; (try dsimp only at hSw); go_simp; try with_reducible rfl⟩) (by assumption) ?_
        simp only [Act.put, List.setIfInBounds_toArray, List.set_cons_zero, List.set_cons_succ]
        refine AnyL.take (i := 11) (oi := ⟨some 81, _, _, _, _, _⟩) (v := _) rfl (by kernel_rfl) (by kernel_rfl) (by kernel_rfl) (by kernel_rfl) (fun _ _ _ h => h) (Or.inl ⟨by kernel_rfl, by intro w hSw; (try dsimp only at hSw); go_simp; try with_reducible rfl⟩) (by assumption) ?_
        simp only [Act.put, List.setIfInBounds_toArray, List.set_cons_zero, List.set_cons_succ]
        refine AnyL.take (i := 12) (oi := ⟨some 82, _, _, _, _, _⟩) (v := _) rfl (by kernel_rfl) (by kernel_rfl) (by kernel_rfl) (by kernel_rfl) (fun _ _ _ h => h) (Or.inl ⟨by kernel_rfl, by intro w hSw; (try dsimp only at hSw); go_simp; try with_reducible rfl⟩) (by assumption) ?_
        simp only [Act.put, List.setIfInBounds_toArray, List.set_cons_zero, List.set_cons_succ]
        refine AnyL.take (i := 13) (oi := ⟨some 83, _, _, _, _, _⟩) (v := _) rfl (by kernel_rfl) (by kernel_rfl) (by kernel_rfl) (by kernel_rfl) (fun _ _ _ h => h) (Or.inl ⟨by kernel_rfl, by intro w hSw; (try dsimp only at hSw); go_simp; try with_reducible rfl⟩) (by assumption) ?_
        simp only [Act.put, List.setIfInBounds_toArray, List.set_cons_zero, List.set_cons_succ]
        refine AnyL.take (i := 14) (oi := ⟨some 84, _, _, _, _, _⟩) (v := _) rfl (by kernel_rfl) (by kernel_rfl) (by kernel_rfl) (by kernel_rfl) (fun _ _ _ h => h) (Or.inl ⟨by kernel_rfl, by intro w hSw; (try dsimp only at hSw); go_simp; try with_reducible rfl⟩) (by assumption) ?_
        simp only [Act.put, List.setIfInBounds_toArray, List.set_cons_zero, List.set_cons_succ]
        refine AnyL.last (o := ⟨none, _, _, _, _, _⟩) (by kernel_rfl) rfl (by kernel_rfl) (fun K hK => ?_)
        go_simp
        refine hK.out _ _ ?_
        clear hK K hHeld
        go_wp2
        go_roundw
        case rel => exact ⟨m + 1, by have := HM.out; omega, by have := HM.out; go_num, HO6.out, HB6.out.drew, HK6.out.kept fun _ _ _ => rfl, HZ6.out⟩
        case measure => have := HM.out; simp [intOf]; omega
set_option maxRecDepth 100000 in
set_option maxHeartbeats 8000000 in
theorem FnPriceBound_walk (v : Value) (xs : List Int) (w : World) (h : Bytes w 0 w.heap.size v xs) :
    Calls Try.prog 10 #[v] w fun e w' => e = .returned (.bool true) ∧ Below w.heap.size w w' := by
  have hv : ∃ A c, v = .slice A xs.length c ∧ xs.length ≤ c ∧ c ≤ 2 ^ 63 - 1 := by obtain ⟨A, c, e, h1, h2, _⟩ := h; exact ⟨A, c, e, h1, by unfold maxLen at h2; omega⟩
  obtain ⟨A0, c0, rfl, hc0, hm0⟩ := hv
  by_cases hl : 1048576 < xs.length
  · have hl' : (1048576 : Int) < (xs.length : Int) := by omega
    go_enter Try.func10, Try.ntmps10
    go_wp2
    go_ret
    exact ⟨rfl, Below.refl _ _⟩
  have hl' : ¬ (1048576 : Int) < (xs.length : Int) := by omega
  go_enter Try.func10, Try.ntmps10
  go_wp2_with fail
  refine (DrawPriceBound_any _ xs w h).mono ?_
  rintro e w1 ⟨p, u1, u2, u3, ws, ns, vs, rfl, hi1, hi2, hi3, b1⟩
  obtain ⟨A1, c1, rfl, hc1, hm1⟩ := hi1.form
  obtain ⟨A2, c2, rfl, hc2, hm2⟩ := hi2.form
  obtain ⟨A3, c3, rfl, hc3, hm3⟩ := hi3.form
  have HB1 := Lib.hid b1
  have HW := Lib.hid (hi1.wide (Nat.zero_le _) (Nat.le_refl _))
  have HX := Lib.hid (hi2.wide (Nat.zero_le _) (Nat.le_refl _))
  have HV := Lib.hid (hi3.wide (Nat.zero_le _) (Nat.le_refl _))
  have hz1 := b1.size
  clear h hl hl' b1 hi1 hi2 hi3
  have hrng := pb_rng (W := p) (ws := ws) (ns := ns) (vs := vs)
  have HFW := Lib.hid (pb_few (W := p) (ws := ws) (ns := ns) (vs := vs))
  have HG := Lib.hid (pb_greedy (W := p) (ws := ws) (ns := ns) (vs := vs))
  have hgl := gsL_len p ws ns
  obtain ⟨R, hR⟩ : ∃ R, R = pbL p ws ns vs := ⟨_, rfl⟩
  obtain ⟨G, hG⟩ : ∃ G, G = gsL p ws ns := ⟨_, rfl⟩
  obtain ⟨f, hf⟩ : ∃ f, f = fwL p ws ns := ⟨_, rfl⟩
  have HR := Lib.hid hR
  have HE2 := Lib.hid hG
  have HE3 := Lib.hid hf
  rw [← hR] at hrng HFW HG
  rw [← hG] at HG hgl
  rw [← hf] at HFW
  clear hR hG hf
  go_wp2_with fail
  refine (PriceBoundI_any _ _ _ _ _ _ p _ _ _ ws ns vs w1 HW.out (Nat.le_refl _) HX.out (Nat.le_refl _) HV.out (Nat.le_refl _)).mono ?_
  rw [← HR.out]
  rintro e w2 ⟨rfl, b⟩
  have HB2 := Lib.hid b
  have hz2 := b.size
  clear b
  go_wp2_with fail
  refine (PriceBoundS_any _ _ _ _ _ _ p _ _ _ ws ns vs w2 (HW.out.below HB2.out (Nat.le_refl _)) hz2 (HX.out.below HB2.out (Nat.le_refl _)) hz2 (HV.out.below HB2.out (Nat.le_refl _)) hz2).mono ?_
  rw [← HR.out]
  rintro e w3 ⟨rfl, b⟩
  have HB3 := Lib.hid (HB2.out.trans (b.mono hz2))
  have hz3 := b.size
  clear b
  have hRR : (R != R) = false := by simp
  by_cases h0 : R < 0
  · have hRR2 : (R == R) = true := by simp
    go_wp2_with fail
    refine (PriceBoundS_any _ _ _ _ _ _ p _ _ _ ws ns vs w3 (HW.out.below HB3.out (Nat.le_refl _)) (by omega) (HX.out.below HB3.out (Nat.le_refl _)) (by omega) (HV.out.below HB3.out (Nat.le_refl _)) (by omega)).mono ?_
    rw [← HR.out]
    rintro e w4 ⟨rfl, b⟩
    have HB4 := Lib.hid (HB3.out.trans (b.mono (by omega)))
    clear b
    go_wp2
    go_ret
    exact ⟨rfl, HB1.out.trans (HB4.out.mono hz1)⟩
  go_wp2_with fail
  refine (FewestSetsI_any _ _ _ _ p _ _ ws ns w3 (HW.out.below HB3.out (Nat.le_refl _)) (by omega) (HX.out.below HB3.out (Nat.le_refl _)) (by omega)).mono ?_
  rw [← HE3.out]
  rintro e w4 ⟨rfl, b⟩
  have HB4 := Lib.hid (HB3.out.trans (b.mono (by omega)))
  have hz4 := b.size
  clear b
  have hRG : R ≤ (G.length : Int) := HG.out
  have hfr : f < 0 ∨ R ≤ f := HFW.out
  by_cases hf0 : f < 0
  · go_wp2_with fail
    refine (GreedySets_any _ _ _ _ _ _ p ws ns w4 (HW.out.below HB4.out (Nat.le_refl _)) (by omega) (HX.out.below HB4.out (Nat.le_refl _)) (by omega)).mono ?_
    rw [← HE2.out]
    rintro e w6 ⟨vo, rfl, oo, b⟩
    obtain ⟨A6, c6, rfl, hc6, hm6⟩ := oo.form
    have HB6 := Lib.hid (HB4.out.trans (b.mono (by omega)))
    clear oo b
    go_wp2
    go_ret
    exact ⟨rfl, HB1.out.trans (HB6.out.mono hz1)⟩
  · have hRf : R ≤ f := by omega
    clear hfr
    go_wp2_with fail
    refine (GreedySets_any _ _ _ _ _ _ p ws ns w4 (HW.out.below HB4.out (Nat.le_refl _)) (by omega) (HX.out.below HB4.out (Nat.le_refl _)) (by omega)).mono ?_
    rw [← HE2.out]
    rintro e w6 ⟨vo, rfl, oo, b⟩
    obtain ⟨A6, c6, rfl, hc6, hm6⟩ := oo.form
    have HB6 := Lib.hid (HB4.out.trans (b.mono (by omega)))
    clear oo b
    go_wp2
    go_ret
    exact ⟨rfl, HB1.out.trans (HB6.out.mono hz1)⟩
end Go.Proofs.Yteckjiaaikdghaa
