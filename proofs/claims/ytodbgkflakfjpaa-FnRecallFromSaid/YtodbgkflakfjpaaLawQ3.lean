/-
  Lemmas and contracts of single functions of this program, used by the proofs of its laws: what each call returns and what becomes of memory. Conditions: the hypotheses of each theorem.
-/
import Derived.Test.YtodbgkflakfjpaaRecP
import Derived.Test.YtodbgkflakfjpaaCutR
import Derived.Test.YtodbgkflakfjpaaBoolA
namespace Go.Proofs.Ytodbgkflakfjpaa
open Go.RowKit
attribute [local go_sem ↓] Go.wp_at_zero Go.wp_at_succ

/-- which rolls are bad, behind k defects; behind j rolls of the k-th -/
def bdB (ps ds : List (List Int)) (m : Int) (k : Nat) : List Bool := (List.range ps.length).map fun i => (ds.take k).any fun d => decide (m < gi d 4) && mT (gr ps i) d
def bdM (ps ds : List (List Int)) (m : Int) (k : Nat) (xs : List Int) (j : Nat) : List Bool := (List.range ps.length).map fun i => ((ds.take k).any fun d => decide (m < gi d 4) && mT (gr ps i) d) || inL (xs.take j) (i : Int)
theorem bdB_len (ps ds : List (List Int)) (m : Int) (k : Nat) : (bdB ps ds m k).length = ps.length := by simp [bdB]
theorem bdM_len (ps ds : List (List Int)) (m : Int) (k : Nat) (xs : List Int) (j : Nat) : (bdM ps ds m k xs j).length = ps.length := by simp [bdM]
theorem bdB_zero (ps ds : List (List Int)) (m : Int) : bdB ps ds m 0 = List.replicate ps.length false := by
  refine List.ext_getElem (by simp [bdB]) fun i h1 h2 => ?_
  simp [bdB]
theorem bdB_no {ps ds : List (List Int)} {m : Int} {k : Nat} (hk : k < ds.length) (h : gi (gr ds k) 4 ≤ m) : bdB ps ds m (k + 1) = bdB ps ds m k := by
  unfold bdB
  refine List.map_congr_left fun i _ => ?_
  rw [take_gr hk, List.any_append, List.any_cons, List.any_nil, decide_eq_false (show ¬ m < gi (gr ds k) 4 by omega)]
  simp
theorem bdM_zero (ps ds : List (List Int)) (m : Int) (k : Nat) (xs : List Int) : bdM ps ds m k xs 0 = bdB ps ds m k := by
  unfold bdM bdB
  refine List.map_congr_left fun i _ => ?_
  rw [List.take_zero, inL_nil, Bool.or_false]
theorem bdM_step {ps ds : List (List Int)} {m : Int} {k : Nat} {xs : List Int} {j p : Nat} (hj : j < xs.length) (hp : gi xs j = (p : Int)) : (bdM ps ds m k xs j).set p true = bdM ps ds m k xs (j + 1) := by
  unfold bdM
  refine mapr_set fun i => ?_
  rw [take_gi hj, hp]
  have e : inL (xs.take j ++ [(p : Int)]) (i : Int) = (inL (xs.take j) (i : Int) || decide (i = p)) := by
    unfold inL
    rw [List.any_append, List.any_cons, List.any_nil, Bool.or_false]
    congr 1
    rw [Bool.eq_iff_iff, beq_iff_eq, decide_eq_true_eq]
    omega
  rw [e]
  by_cases h : i = p
  · subst h; simp
  · simp [h]
theorem bdM_end {ps ds : List (List Int)} {m : Int} {k : Nat} {xs : List Int} (hk : k < ds.length) (h : m < gi (gr ds k) 4) (hx : xs = selL (fun i => mT (gr ps i) (gr ds k)) ps.length) : bdM ps ds m k xs xs.length = bdB ps ds m (k + 1) := by
  unfold bdM bdB
  refine List.map_congr_left fun i hi => ?_
  have hi' := List.mem_range.1 hi
  rw [take_gr hk, List.any_append, List.any_cons, List.any_nil, decide_eq_true h, List.take_length, Bool.true_and, Bool.or_false]
  congr 1
  rw [Bool.eq_iff_iff, inL_mem, hx, selL_mem]
  constructor
  · rintro ⟨q, _, h2, h3⟩
    have : i = q := by omega
    subst this; exact h2
  · intro h2; exact ⟨i, hi', h2, rfl⟩
theorem worst_any_iff {m : Int} (hm : 0 ≤ m) (ds : List (List Int)) (p : List Int) : (ds.any fun d => decide (m < gi d 4) && mT p d) = decide (m < worstL ds p) := by
  have key : ∀ (ds : List (List Int)) (n : Int), decide (m < ds.foldl (fun m d => if mT d p = true then max m (gi d 4) else m) n) = (decide (m < n) || ds.any fun d => decide (m < gi d 4) && mT p d) := by
    intro ds
    induction ds with
    | nil => intro n; rw [List.foldl_nil, List.any_nil, Bool.or_false]
    | cons d t ih =>
      intro n
      rw [List.foldl_cons, ih, List.any_cons]
      have hc : mT d p = mT p d := meetB_comm _ _ _ _ _ _ _ _
      by_cases e : mT d p = true
      · rw [if_pos e, ← hc, e, Bool.and_true]
        rw [← Bool.or_assoc]
        congr 1
        rw [Bool.eq_iff_iff]
        simp only [Bool.or_eq_true, decide_eq_true_eq]
        omega
      · have e' : mT d p = false := by simpa using e
        rw [if_neg e, ← hc, e', Bool.and_false, Bool.false_or]
  have := key ds 0
  rw [decide_eq_false (show ¬ m < 0 by omega), Bool.false_or] at this
  exact this.symm
theorem bdB_fin {ps ds : List (List Int)} {m : Int} (hm : 0 ≤ m) {i : Nat} (hi : i < ps.length) : gb (bdB ps ds m ds.length) i = decide (m < worstL ds (gr ps i)) := by
  unfold bdB
  rw [gb_map hi, List.take_length]
  exact worst_any_iff hm ds (gr ps i)
theorem cuts_pv {W L : Int} {ds ps : List (List Int)} (h : vCuts W L ds ps = true) {i : Nat} (hi : i < ps.length) : pv (gr ps i) W L = true := by
  have h1 := (vCuts_iff.1 h).2.2 i hi
  cases hp : pv (gr ps i) W L
  · rw [cut_part hp] at h1; exact h1
  · rfl
theorem equalInts_same (l1 h1 l2 h2 : Nat) (v u : Value) (xs : List Int) (w : World) (h : Ints w l1 h1 v xs) (hy : Ints w l2 h2 u xs) :
    Calls Try.prog 49 #[v, u] w fun e w' => e = .returned (.bool true) ∧ Qt w w' :=
  (equalInts_any _ _ _ _ _ _ xs xs w h hy).mono fun e w' ⟨h1, h2⟩ => ⟨by rw [h1, eqL_same], h2⟩
set_option maxRecDepth 100000 in
set_option maxHeartbeats 4000000 in
theorem FnBadRolls_walk (v : Value) (xs : List Int) (w : World) (h : Bytes w 0 w.heap.size v xs) :
    Calls Try.prog 10 #[v] w fun e w' => e = .returned (.bool true) ∧ Below w.heap.size w w' := by
  have hv : ∃ A c, v = .slice A xs.length c ∧ xs.length ≤ c ∧ c ≤ 2 ^ 63 - 1 := by obtain ⟨A, c, e, h1, h2, _⟩ := h; exact ⟨A, c, e, h1, by unfold maxLen at h2; omega⟩
  obtain ⟨A0, c0, rfl, hc0, hm0⟩ := hv
  by_cases hl : 1048576 < xs.length
  · have hl' : (1048576 : Int) < (xs.length : Int) := by omega
    go_enter Try.func10, Try.ntmps10
    go_wp2
    go_ret
    exact ⟨rfl, Below.refl _ _⟩
  · have hl' : ¬ (1048576 : Int) < (xs.length : Int) := by omega
    go_enter Try.func10, Try.ntmps10
    go_wp2_with fail
    refine (DrawBadRolls_any _ xs w h).mono ?_
    rintro e w1 ⟨W, L, u, z, ds, ps, most, rfl, ou, op, hmo, b1⟩
    obtain ⟨A, c, rfl, hc, hm⟩ := ou.form
    obtain ⟨A2, c2, rfl, hc2, hm2⟩ := op.form
    have hs1 := b1.size
    clear h hl hl'
    go_wp2_with fail
    obtain ⟨w2, hw1⟩ : ∃ w2, w2 = w1.alloc (.cells #[.int .i64 W, .int .i64 L, .slice A ds.length c] 30) := ⟨_, rfl⟩
    have x0 : w2.cell? ⟨w1.heap.size, 0, none⟩ = some (.int .i64 W) := by rw [hw1]; go_simp
    have x1 : w2.cell? ⟨w1.heap.size, 1, none⟩ = some (.int .i64 L) := by rw [hw1]; go_simp
    have x2 : w2.cell? ⟨w1.heap.size, 2, none⟩ = some (.slice A ds.length c) := by rw [hw1]; go_simp
    have bx : Below w1.heap.size w1 w2 := by rw [hw1]; exact (Below.refl _ _).alloc (Nat.le_refl _) _
    have zx : w1.heap.size < w2.heap.size := by rw [hw1]; simp
    rw [← hw1]
    clear hw1
    have B2 := b1.trans (bx.mono hs1)
    replace ou := ou.kept (.of_below bx (Nat.le_refl _))
    replace op := op.kept (.of_below bx (Nat.le_refl _))
    clear bx b1
    obtain ⟨R, hR⟩ : ∃ R, R = brL W L ds ps most := ⟨_, rfl⟩
    have HR := Lib.hid hR
    clear hR
    refine (BadRolls_any _ _ _ _ W L _ _ ds ps most w2 ou.ts (Nat.le_refl _) op.ts (Nat.le_refl _)).mono ?_
    rw [← HR.out]
    rintro e w3 ⟨vo, rfl, oo, b⟩
    have s3 := b.size
    have B3 := B2.trans (b.mono (by omega))
    replace x0 := keepB b x0; replace x1 := keepB b x1; replace x2 := keepB b x2
    replace ou := ou.kept (.of_below b (Nat.le_refl _))
    replace op := op.kept (.of_below b (Nat.le_refl _))
    obtain ⟨A4, c4, rfl, hc4, hm4⟩ := oo.form
    clear b B2
    go_wp2_with fail
    refine (sBadRolls_any _ _ _ _ W L _ _ ds ps most w3 ou.ts (Nat.le_refl _) op.ts (Nat.le_refl _)).mono ?_
    rw [← HR.out]
    rintro e w4 ⟨vs, rfl, os, b⟩
    have s4 := b.size
    have B4 := B3.trans (b.mono (by omega))
    replace x0 := keepB b x0; replace x1 := keepB b x1; replace x2 := keepB b x2
    replace ou := ou.kept (.of_below b (Nat.le_refl _))
    replace op := op.kept (.of_below b (Nat.le_refl _))
    replace oo := oo.kept (.of_below b (Nat.le_refl _))
    clear b B3
    go_wp2_with fail
    refine (equalInts_same _ _ _ _ _ _ R w4 oo.ints os.ints).mono ?_
    rintro e w5 ⟨rfl, q⟩
    have b := q.below w4.heap.size
    have s5 := b.size
    have B5 := B4.trans (b.mono (by omega))
    replace x0 := keepB b x0; replace x1 := keepB b x1; replace x2 := keepB b x2
    replace ou := ou.kept (.of_below b (Nat.le_refl _))
    replace op := op.kept (.of_below b (Nat.le_refl _))
    replace oo := oo.kept (.of_below b (Nat.le_refl _))
    clear b q B4 os
    go_wp2_with fail
    refine (ValidCuts_any _ _ _ _ W L _ _ ds ps w5 ou.ts (Nat.le_refl _) op.ts (Nat.le_refl _)).mono ?_
    rintro e w6 ⟨rfl, b⟩
    have s6 := b.size
    have B6 := B5.trans (b.mono (by omega))
    replace x0 := keepB b x0; replace x1 := keepB b x1; replace x2 := keepB b x2
    replace ou := ou.kept (.of_below b (Nat.le_refl _))
    replace op := op.kept (.of_below b (Nat.le_refl _))
    replace oo := oo.kept (.of_below b (Nat.le_refl _))
    clear b B5
    by_cases hgo : vCuts W L ds ps = true ∧ 0 ≤ most
    · obtain ⟨hv, hm0'⟩ := hgo
      have hnm : ¬ most < 0 := by omega
      have HV := Lib.hid hv
      rw [hv]
      clear hv
      have hl60 := (vCuts_iff.1 HV.out).2.1
      have hd16 := (vReel_iff.1 (vCuts_iff.1 HV.out).1).2.2.2.2.1
      have Ou := Lib.hid ou
      have Op := Lib.hid op
      have Oo := Lib.hid oo
      clear ou op oo
      go_wp2_with (at_make; refine wpList_makeB SlB _ rfl _ _ rfl w6.heap.size ps.length rfl rfl (by omega) (Nat.le_refl _) ?_; intro y0 ho hb1 hs1)
      rw [← bdB_zero ps ds most] at ho
      have B7 := B6.trans (hb1.mono (by omega))
      replace x0 := keepB hb1 x0; replace x1 := keepB hb1 x1; replace x2 := keepB hb1 x2
      have HU := Lib.hid (Ou.out.ts.below hb1 (Nat.le_refl _))
      have HP := Lib.hid (Op.out.ts.below hb1 (Nat.le_refl _))
      have HO := Lib.hid (Oo.out.ints.below hb1 (Nat.le_refl _))
      have hzx : w1.heap.size < w6.heap.size := by omega
      clear Ou Op Oo hb1 B6
      go_loopw [8] (fun i wr => ∃ k : Nat, k ≤ ds.length ∧ i = .int .i64 k ∧ OwnB wr w6.heap.size 4 (.slice (some ⟨w6.heap.size, 0, none⟩) ps.length ps.length) (bdB ps ds most k) ∧ Below w6.heap.size y0 wr) (fun i _ => ds.length - (intOf i).toNat)
      case atStart => exact ⟨0, by omega, rfl, ho, Below.refl _ _⟩
      case round =>
        obtain ⟨k, hk, rfl, ho, bw⟩ := hrel
        obtain ⟨wo, rfl⟩ : ∃ wo : World, wo = wr := ⟨_, rfl⟩
        have hzr := bw.size
        have k0 := x0
        have k1 := x1
        have k2 := x2
        replace x0 := keepC bw (by first | (simp; done) | (simp; omega)) x0; replace x1 := keepC bw (by first | (simp; done) | (simp; omega)) x1; replace x2 := keepC bw (by first | (simp; done) | (simp; omega)) x2
        by_cases hlt : k < ds.length
        · have HUr := Lib.hid (HU.out.below bw (Nat.le_refl _))
          have HPr := Lib.hid (HP.out.below bw (Nat.le_refl _))
          obtain ⟨b, o, rfl, hb2, hb3, e0, e1, e2, e3, e4⟩ := HUr.out.c5 hlt
          have hk0 : (0 : Int) ≤ (k : Int) := by omega
          have hk1 : (k : Int) < (ds.length : Int) := by omega
          clear e0 e1 e2 e3
          by_cases gx : gi (gr ds k) 4 ≤ most
          · have Hno := Lib.hid (bdB_no (ps := ps) hlt gx)
            go_wp2
            go_roundw
            case rel => exact ⟨k + 1, by omega, by go_num, by rw [Hno.out]; exact ho, bw⟩
            case measure => simp [intOf]; omega
          · have X1 := Lib.hid (show most < gi (gr ds k) 4 by omega)
            obtain ⟨zs, hzs⟩ : ∃ zs, zs = rwL W L (ds) ps (k : Int) := ⟨_, rfl⟩
            have HX := Lib.hid (show zs = selL (fun i => mT (gr ps i) (gr ds k)) ps.length by
              rw [hzs]; unfold rwL
              rw [if_pos ⟨HV.out, by omega, by omega⟩, Int.toNat_natCast])
            have HXL := Lib.hid (show zs.length ≤ ps.length by rw [HX.out]; exact selL_len _ _)
            have hzl : zs.length ≤ 60 := by have := HXL.out; omega
            have HXM := Lib.hid (show ∀ j, j < zs.length → ∃ p : Nat, p < ps.length ∧ gi zs j = (p : Int) from fun j hj => by
              have h1 : gi zs j ∈ zs := gi_mem hj
              rw [HX.out] at h1
              obtain ⟨p, h2, _, h3⟩ := selL_mem.1 h1
              exact ⟨p, h2, by rw [HX.out]; exact h3⟩)
            go_wp2_with fail
            refine (RollsWith_any _ _ _ _ W L _ _ ds ps (k : Int) wo HUr.out (by omega) HPr.out (by omega)).mono ?_
            rw [← hzs]
            rintro e wa ⟨vz, rfl, oz, bz⟩
            clear hzs
            have hza := bz.size
            have hoa := ho.kept (.of_below bz (Nat.le_refl _))
            have bwa := bw.trans (bz.mono (by omega))
            replace x0 := keepB bz x0; replace x1 := keepB bz x1; replace x2 := keepB bz x2
            obtain ⟨A5, c5, rfl, hc5, hm5⟩ := oz.form
            have hgo2 := (ho.at_ (i := 0))
            have hgz : w6.heap.size < wo.heap.size := by
              have := hs1; omega
            clear hgo2 ho bz e4
            go_wp2
            go_loopw [10] (fun i wr => ∃ j : Nat, j ≤ zs.length ∧ i = .int .i64 j ∧ OwnB wr w6.heap.size 4 (.slice (some ⟨w6.heap.size, 0, none⟩) ps.length ps.length) (bdM ps ds most k zs j) ∧ OwnI wr wo.heap.size 3 (.slice A5 zs.length c5) zs ∧ Below w6.heap.size y0 wr) (fun i _ => zs.length - (intOf i).toNat)
            case atStart => exact ⟨0, by omega, rfl, by rw [bdM_zero]; exact hoa, oz, bwa⟩
            case round =>
              clear hoa oz bwa x0 x1 x2
              obtain ⟨j, hj, rfl, ho, oz, bw3⟩ := hrel
              have hz3 := bw3.size
              by_cases hlt2 : j < zs.length
              · obtain ⟨p, hp, hpe⟩ := HXM.out j hlt2
                obtain ⟨b9, o9, rfl, hb91, hb92, hce, _⟩ := oz.ints.cell hlt2
                rw [hpe] at hce
                obtain ⟨hg, hcell, hfr, hst⟩ := ho.at_ (i := p) (by rw [bdM_len]; exact hp)
                have Hst := Lib.hid (hst true)
                rw [bdM_step hlt2 hpe] at Hst
                have Hoz := Lib.hid (oz.setB (p := ⟨w6.heap.size, p, none⟩) hgz (.bool true))
                have hn0 : (0 : Int) ≤ (p : Int) := by omega
                have hn1 : (p : Int) < (ps.length : Int) := by omega
                have hj0 : (0 : Int) ≤ (j : Int) := by omega
                have hj1 : (j : Int) < (zs.length : Int) := by omega
                clear hst ho oz hpe
                go_wp2
                go_roundw
                case rel => exact ⟨j + 1, by omega, by go_num, Hst.out, Hoz.out, bw3.setCell (Nat.le_refl _) _⟩
                case measure => simp [intOf]; omega
              · have HE := Lib.hid (show bdM ps ds most k zs j = bdB ps ds most (k + 1) by rw [show j = zs.length by omega]; exact bdM_end hlt X1.out HX.out)
                clear oz
                go_wp2
                go_roundw
                case rel => exact ⟨k + 1, by omega, by go_num, by rw [← HE.out]; exact ho, bw3⟩
                case measure => simp [intOf]; omega
        · have He := Lib.hid (show k = ds.length by omega)
          rw [show k = ds.length by omega] at ho
          go_wp2
          go_loopw [11] (fun i wr => ∃ n : Nat, n ≤ ps.length ∧ i = .int .i64 n ∧ OwnB wr w6.heap.size 4 (.slice (some ⟨w6.heap.size, 0, none⟩) ps.length ps.length) (bdB ps ds most ds.length) ∧ Below w6.heap.size y0 wr) (fun i _ => ps.length - (intOf i).toNat)
          case atStart => exact ⟨0, by omega, rfl, ho, bw⟩
          case round =>
            clear ho bw hzr
            obtain ⟨n, hn, rfl, ho, bw⟩ := hrel
            have hzr := bw.size
            by_cases hlt : n < ps.length
            · have HUr := Lib.hid (HU.out.below bw (Nat.le_refl _))
              have HPr := Lib.hid (HP.out.below bw (Nat.le_refl _))
              have HOr := Lib.hid (HO.out.below bw (Nat.le_refl _))
              obtain ⟨b, o, rfl, hb2, hb3, e0, e1, e2, e3⟩ := HPr.out.c4 hlt
              obtain ⟨hgs, hcell, _, _⟩ := ho.at_ (i := n) (by rw [bdB_len]; exact hlt)
              rw [bdB_fin hm0' hlt] at hcell
              have hpv := cuts_pv HV.out hlt
              have hin := insB_true hpv
              have HK := Lib.hid (show (vReel W L ds && insB (gi (gr ps n) 0) (gi (gr ps n) 1) (gi (gr ps n) 2) (gi (gr ps n) 3) W L) = true by rw [(vCuts_iff.1 HV.out).1, show insB (gi (gr ps n) 0) (gi (gr ps n) 1) (gi (gr ps n) 2) (gi (gr ps n) 3) W L = true from hpv]; rfl)
              obtain ⟨Cd, hCd⟩ : ∃ Cd, Cd = cutDs ds [gi (gr ps n) 0, gi (gr ps n) 1, gi (gr ps n) 2, gi (gr ps n) 3] := ⟨_, rfl⟩
              have HW := Lib.hid (show (if (vReel (gi (gr ps n) 1 - gi (gr ps n) 0) (gi (gr ps n) 3 - gi (gr ps n) 2) Cd && insB 0 (gi (gr ps n) 1 - gi (gr ps n) 0) 0 (gi (gr ps n) 3 - gi (gr ps n) 2) (gi (gr ps n) 1 - gi (gr ps n) 0) (gi (gr ps n) 3 - gi (gr ps n) 2)) = true then worstL Cd [0, gi (gr ps n) 1 - gi (gr ps n) 0, 0, gi (gr ps n) 3 - gi (gr ps n) 2] else -1) = worstL ds (gr ps n) by
                have h1 := cut_valid (p := gr ps n) (vCuts_iff.1 HV.out).1 hpv
                have h2 : insB 0 (gi (gr ps n) 1 - gi (gr ps n) 0) 0 (gi (gr ps n) 3 - gi (gr ps n) 2) (gi (gr ps n) 1 - gi (gr ps n) 0) (gi (gr ps n) 3 - gi (gr ps n) 2) = true := insB_iff.2 (by omega)
                have h3 := cut_worst hpv (vReel_iff.1 (vCuts_iff.1 HV.out).1).2.2.2.2.2
                have e : Cd = cutDs ds (gr ps n) := hCd
                rw [e, h1, h2]
                exact (if_pos rfl).trans h3)
              have HIN := Lib.hid (show inL R (n : Int) = decide (most < worstL ds (gr ps n)) by rw [HR.out]; exact br_mem HV.out hlt)
              obtain ⟨y, hy⟩ : ∃ y, y = worstL ds (gr ps n) := ⟨_, rfl⟩
              rw [← hy] at HW HIN hcell
              have HCd := Lib.hid hCd
              clear hCd
              have hrg := vReel_rng (vCuts_iff.1 HV.out).1
              have hn0 : (0 : Int) ≤ (n : Int) := by omega
              have hn1 : (n : Int) < (ps.length : Int) := by omega
              have Ho := Lib.hid ho
              clear x0 x1 x2
              have x0 := k0
              have x1 := k1
              have x2 := k2
              replace x0 := keepC bw (by first | (simp; done) | (simp; omega)) x0; replace x1 := keepC bw (by first | (simp; done) | (simp; omega)) x1; replace x2 := keepC bw (by first | (simp; done) | (simp; omega)) x2
              clear ho hpv hy hgs
              go_wp2
              refine wp_region_held_drew (S := fun w' => w'.cell? ⟨w1.heap.size, 0, none⟩ = some (.int .i64 W) ∧ w'.cell? ⟨w1.heap.size, 1, none⟩ = some (.int .i64 L) ∧ w'.cell? ⟨w1.heap.size, 2, none⟩ = some (.slice A ds.length c) ∧ w'.cell? ⟨b, o + n * 4, none⟩ = some (.int .i64 (gi (gr ps n) 0)) ∧ w'.cell? ⟨b, o + n * 4 + 1, none⟩ = some (.int .i64 (gi (gr ps n) 1)) ∧ w'.cell? ⟨b, o + n * 4 + 2, none⟩ = some (.int .i64 (gi (gr ps n) 2)) ∧ w'.cell? ⟨b, o + n * 4 + 3, none⟩ = some (.int .i64 (gi (gr ps n) 3))) (by kernel_rfl) ?_ (fun hHeld => ?_)
              · (first | (try dsimp only); go_keep | (go_split_ands; refine ⟨?_, ?_, ?_, ?_, ?_, ?_, ?_⟩ <;> first | exact keepB bx5 (by assumption) | exact keepB bx4 (by assumption) | exact keepB bx3 (by assumption) | exact keepB bx2 (by assumption) | exact keepB bx1 (by assumption) | exact keepO bo5 (by first | (simp; done) | (simp; omega)) (by assumption) | exact keepO bo4 (by first | (simp; done) | (simp; omega)) (by assumption) | exact keepO bo3 (by first | (simp; done) | (simp; omega)) (by assumption) | exact keepO bo2 (by first | (simp; done) | (simp; omega)) (by assumption) | exact keepO bo1 (by first | (simp; done) | (simp; omega)) (by assumption) | exact keepW bg2 (by first | (simp; done) | (simp; omega)) (by assumption) | exact keepW bg1 (by first | (simp; done) | (simp; omega)) (by assumption) | assumption))
              refine wpAnyH_take (i := 0) (oi := ⟨some 89, _, _, _, _, _⟩) (v := _) rfl (by kernel_rfl) (by kernel_rfl) (by kernel_rfl) (fun _ _ _ h => h) (Or.inl ⟨by kernel_rfl, by intro w hSw; (try dsimp only at hSw); go_simp; try with_reducible rfl⟩) (by assumption) ?_
              simp only [Act.put, List.setIfInBounds_toArray, List.set_cons_zero, List.set_cons_succ]
              refine wpAnyH_take (i := 1) (oi := ⟨some 90, _, _, _, _, _⟩) (v := _) rfl (by kernel_rfl) (by kernel_rfl) (by kernel_rfl) (fun _ _ _ h => h) (Or.inl ⟨by kernel_rfl, by intro w hSw; (try dsimp only at hSw); go_simp; try with_reducible rfl⟩) (by assumption) ?_
              simp only [Act.put, List.setIfInBounds_toArray, List.set_cons_zero, List.set_cons_succ]
              refine wpAnyH_take (i := 2) (oi := ⟨some 91, _, _, _, _, _⟩) (v := _) rfl (by kernel_rfl) (by kernel_rfl) (by kernel_rfl) (fun _ _ _ h => h) (Or.inl ⟨by kernel_rfl, by intro w hSw; (try dsimp only at hSw); go_simp; try with_reducible rfl⟩) (by assumption) ?_
              simp only [Act.put, List.setIfInBounds_toArray, List.set_cons_zero, List.set_cons_succ]
              refine wpAnyH_take (i := 3) (oi := ⟨some 92, _, _, _, _, _⟩) (v := _) rfl (by kernel_rfl) (by kernel_rfl) (by kernel_rfl) (fun _ _ _ h => h) (Or.inl ⟨by kernel_rfl, by intro w hSw; (try dsimp only at hSw); go_simp; try with_reducible rfl⟩) (by assumption) ?_
              simp only [Act.put, List.setIfInBounds_toArray, List.set_cons_zero, List.set_cons_succ]
              refine wpAnyH_take (i := 4) (oi := ⟨some 93, _, _, _, _, _⟩) (v := _) rfl (by kernel_rfl) (by kernel_rfl) (by kernel_rfl) (fun _ _ _ h => h) (Or.inl ⟨by kernel_rfl, by intro w hSw; (try dsimp only at hSw); go_simp; try with_reducible rfl⟩) (by assumption) ?_
              simp only [Act.put, List.setIfInBounds_toArray, List.set_cons_zero, List.set_cons_succ]
              refine wpAnyH_ready (rs := [5, 6]) (by kernel_rfl) (by simp) (AllReadyH.cons (o := ⟨some 94, _, _, _, _, _⟩) rfl (fun K hK => ?_) (AllReadyH.cons (o := ⟨some 12, _, _, _, _, _⟩) rfl (fun K hK => ?_) (AllReadyH.nil)))
              focus
                go_simp
                go_at_call 50
                refine (CutReel_any _ _ W L _ ds _ _ _ _ _ (HUr.out.drewN 1) (by simp; omega) HK.out).mono ?_
                rw [← HCd.out]
                rintro e wc ⟨vc, rfl, oc, bx1⟩
                obtain ⟨A6, c6, rfl, hc6, hm6⟩ := oc.form
                have by1 := of_drew bx1
                replace x0 := keepB by1 x0; replace x1 := keepB by1 x1; replace x2 := keepB by1 x2; replace e0 := keepB by1 e0; replace e1 := keepB by1 e1; replace e2 := keepB by1 e2; replace e3 := keepB by1 e3
                go_wp2_with fail
                refine hK.out _ _ ?_ (fun hHeld2 => ?_)
                · (first | (try dsimp only); go_keep | (go_split_ands; refine ⟨?_, ?_, ?_, ?_, ?_, ?_, ?_⟩ <;> first | exact keepB bx5 (by assumption) | exact keepB bx4 (by assumption) | exact keepB bx3 (by assumption) | exact keepB bx2 (by assumption) | exact keepB bx1 (by assumption) | exact keepO bo5 (by first | (simp; done) | (simp; omega)) (by assumption) | exact keepO bo4 (by first | (simp; done) | (simp; omega)) (by assumption) | exact keepO bo3 (by first | (simp; done) | (simp; omega)) (by assumption) | exact keepO bo2 (by first | (simp; done) | (simp; omega)) (by assumption) | exact keepO bo1 (by first | (simp; done) | (simp; omega)) (by assumption) | exact keepW bg2 (by first | (simp; done) | (simp; omega)) (by assumption) | exact keepW bg1 (by first | (simp; done) | (simp; omega)) (by assumption) | assumption))
                clear hK K hHeld
                have hHeld := hHeld2
                clear hHeld2
                try simp only [Act.put, List.setIfInBounds_toArray, List.set_cons_zero, List.set_cons_succ]
                refine wpAnyH_ready (rs := [6]) (by kernel_rfl) (by simp) ?_
                refine AllReadyH.cons (o := ⟨some 12, _, _, _, _, _⟩) rfl (fun K hK => ?_) AllReadyH.nil
                go_simp
                refine hK.out _ _ ?_ (fun hHeld2 => ?_)
                · (first | (try dsimp only); go_keep | (go_split_ands; refine ⟨?_, ?_, ?_, ?_, ?_, ?_, ?_⟩ <;> first | exact keepB bx5 (by assumption) | exact keepB bx4 (by assumption) | exact keepB bx3 (by assumption) | exact keepB bx2 (by assumption) | exact keepB bx1 (by assumption) | exact keepO bo5 (by first | (simp; done) | (simp; omega)) (by assumption) | exact keepO bo4 (by first | (simp; done) | (simp; omega)) (by assumption) | exact keepO bo3 (by first | (simp; done) | (simp; omega)) (by assumption) | exact keepO bo2 (by first | (simp; done) | (simp; omega)) (by assumption) | exact keepO bo1 (by first | (simp; done) | (simp; omega)) (by assumption) | exact keepW bg2 (by first | (simp; done) | (simp; omega)) (by assumption) | exact keepW bg1 (by first | (simp; done) | (simp; omega)) (by assumption) | assumption))
                clear hK K hHeld
                have hHeld := hHeld2
                clear hHeld2
                try simp only [Act.put, List.setIfInBounds_toArray, List.set_cons_zero, List.set_cons_succ]
                refine wpAnyH_ready (rs := [7]) (by kernel_rfl) (by simp) ?_
                refine AllReadyH.cons (o := ⟨none, _, _, _, _, _⟩) rfl (fun K hK => ?_) AllReadyH.nil
                go_simp
                refine hK.out _ _ ?_ (fun hHeld2 => ?_)
                · (first | (try dsimp only); go_keep | (go_split_ands; refine ⟨?_, ?_, ?_, ?_, ?_, ?_, ?_⟩ <;> first | exact keepB bx5 (by assumption) | exact keepB bx4 (by assumption) | exact keepB bx3 (by assumption) | exact keepB bx2 (by assumption) | exact keepB bx1 (by assumption) | exact keepO bo5 (by first | (simp; done) | (simp; omega)) (by assumption) | exact keepO bo4 (by first | (simp; done) | (simp; omega)) (by assumption) | exact keepO bo3 (by first | (simp; done) | (simp; omega)) (by assumption) | exact keepO bo2 (by first | (simp; done) | (simp; omega)) (by assumption) | exact keepO bo1 (by first | (simp; done) | (simp; omega)) (by assumption) | exact keepW bg2 (by first | (simp; done) | (simp; omega)) (by assumption) | exact keepW bg1 (by first | (simp; done) | (simp; omega)) (by assumption) | assumption))
                clear hK K hHeld
                have hHeld := hHeld2
                clear hHeld2
                try simp only [Act.put, List.setIfInBounds_toArray, List.set_cons_zero, List.set_cons_succ]
                refine wpAnyH_done (by kernel_rfl) ?_ _
              rotate_left 1
              focus
                go_simp
                refine hK.out _ _ ?_ (fun hHeld2 => ?_)
                · (first | (try dsimp only); go_keep | (go_split_ands; refine ⟨?_, ?_, ?_, ?_, ?_, ?_, ?_⟩ <;> first | exact keepB bx5 (by assumption) | exact keepB bx4 (by assumption) | exact keepB bx3 (by assumption) | exact keepB bx2 (by assumption) | exact keepB bx1 (by assumption) | exact keepO bo5 (by first | (simp; done) | (simp; omega)) (by assumption) | exact keepO bo4 (by first | (simp; done) | (simp; omega)) (by assumption) | exact keepO bo3 (by first | (simp; done) | (simp; omega)) (by assumption) | exact keepO bo2 (by first | (simp; done) | (simp; omega)) (by assumption) | exact keepO bo1 (by first | (simp; done) | (simp; omega)) (by assumption) | exact keepW bg2 (by first | (simp; done) | (simp; omega)) (by assumption) | exact keepW bg1 (by first | (simp; done) | (simp; omega)) (by assumption) | assumption))
                clear hK K hHeld
                have hHeld := hHeld2
                clear hHeld2
                try simp only [Act.put, List.setIfInBounds_toArray, List.set_cons_zero, List.set_cons_succ]
                refine wpAnyH_ready (rs := [5]) (by kernel_rfl) (by simp) ?_
                refine AllReadyH.cons (o := ⟨some 94, _, _, _, _, _⟩) rfl (fun K hK => ?_) AllReadyH.nil
                go_simp
                go_at_call 50
                obtain ⟨wq, hwq⟩ : ∃ wq, wq = (wr.alloc (.cells #[.int .i64 0, .int .i64 0, .slice none 0 0] 30)).drew := ⟨_, rfl⟩
                have bq : Below wr.heap.size wr wq := by rw [hwq]; exact ((Below.refl _ _).alloc (Nat.le_refl _) _).trans ((Qt.one _ 1).below _)
                have hzq : wr.heap.size < wq.heap.size := by rw [hwq]; simp
                have d0 : wq.cell? ⟨wr.heap.size, 0, none⟩ = some (.int .i64 0) := by rw [hwq]; go_simp
                have fd0 : wq.frozen? ⟨wr.heap.size, 0, none⟩ = false := by rw [hwq]; go_simp
                have d1 : wq.cell? ⟨wr.heap.size, 1, none⟩ = some (.int .i64 0) := by rw [hwq]; go_simp
                have fd1 : wq.frozen? ⟨wr.heap.size, 1, none⟩ = false := by rw [hwq]; go_simp
                have d2 : wq.cell? ⟨wr.heap.size, 2, none⟩ = some (.slice none 0 0) := by rw [hwq]; go_simp
                have fd2 : wq.frozen? ⟨wr.heap.size, 2, none⟩ = false := by rw [hwq]; go_simp
                have hne1 : ¬ wr.heap.size = w1.heap.size := by omega
                have hne2 : ¬ wr.heap.size = b := by omega
                rw [← hwq]
                clear hwq
                replace x0 := keepB bq x0; replace x1 := keepB bq x1; replace x2 := keepB bq x2; replace e0 := keepB bq e0; replace e1 := keepB bq e1; replace e2 := keepB bq e2; replace e3 := keepB bq e3
                refine (CutReel_any _ _ W L _ ds _ _ _ _ _ (HUr.out.below bq (by omega)) (by omega) HK.out).mono ?_
                rw [← HCd.out]
                rintro e wc ⟨vc, rfl, oc, bx1⟩
                obtain ⟨A6, c6, rfl, hc6, hm6⟩ := oc.form
                have by1 := bx1
                replace x0 := keepB by1 x0; replace x1 := keepB by1 x1; replace x2 := keepB by1 x2; replace e0 := keepB by1 e0; replace e1 := keepB by1 e1; replace e2 := keepB by1 e2; replace e3 := keepB by1 e3; replace d0 := keepB by1 d0; replace d1 := keepB by1 d1; replace d2 := keepB by1 d2
                replace fd0 := keepF by1 (by first | (simp; done) | (simp; omega)) fd0; replace fd1 := keepF by1 (by first | (simp; done) | (simp; omega)) fd1; replace fd2 := keepF by1 (by first | (simp; done) | (simp; omega)) fd2
                go_wp2_with fail
                refine hK.out _ _ ?_ (fun hHeld2 => ?_)
                · (first | (try dsimp only); go_keep | (go_split_ands; refine ⟨?_, ?_, ?_, ?_, ?_, ?_, ?_⟩ <;> first | exact keepB bx5 (by assumption) | exact keepB bx4 (by assumption) | exact keepB bx3 (by assumption) | exact keepB bx2 (by assumption) | exact keepB bx1 (by assumption) | exact keepO bo5 (by first | (simp; done) | (simp; omega)) (by assumption) | exact keepO bo4 (by first | (simp; done) | (simp; omega)) (by assumption) | exact keepO bo3 (by first | (simp; done) | (simp; omega)) (by assumption) | exact keepO bo2 (by first | (simp; done) | (simp; omega)) (by assumption) | exact keepO bo1 (by first | (simp; done) | (simp; omega)) (by assumption) | exact keepW bg2 (by first | (simp; done) | (simp; omega)) (by assumption) | exact keepW bg1 (by first | (simp; done) | (simp; omega)) (by assumption) | assumption))
                clear hK K hHeld
                have hHeld := hHeld2
                clear hHeld2
                try simp only [Act.put, List.setIfInBounds_toArray, List.set_cons_zero, List.set_cons_succ]
                refine wpAnyH_ready (rs := [7]) (by kernel_rfl) (by simp) ?_
                refine AllReadyH.cons (o := ⟨none, _, _, _, _, _⟩) rfl (fun K hK => ?_) AllReadyH.nil
                go_simp
                refine hK.out _ _ ?_ (fun hHeld2 => ?_)
                · (first | (try dsimp only); go_keep | (go_split_ands; refine ⟨?_, ?_, ?_, ?_, ?_, ?_, ?_⟩ <;> first | exact keepB bx5 (by assumption) | exact keepB bx4 (by assumption) | exact keepB bx3 (by assumption) | exact keepB bx2 (by assumption) | exact keepB bx1 (by assumption) | exact keepO bo5 (by first | (simp; done) | (simp; omega)) (by assumption) | exact keepO bo4 (by first | (simp; done) | (simp; omega)) (by assumption) | exact keepO bo3 (by first | (simp; done) | (simp; omega)) (by assumption) | exact keepO bo2 (by first | (simp; done) | (simp; omega)) (by assumption) | exact keepO bo1 (by first | (simp; done) | (simp; omega)) (by assumption) | exact keepW bg2 (by first | (simp; done) | (simp; omega)) (by assumption) | exact keepW bg1 (by first | (simp; done) | (simp; omega)) (by assumption) | assumption))
                clear hK K hHeld
                have hHeld := hHeld2
                clear hHeld2
                try simp only [Act.put, List.setIfInBounds_toArray, List.set_cons_zero, List.set_cons_succ]
                refine wpAnyH_done (by kernel_rfl) ?_ _
              rotate_left 1
              · have hz9 := by1.size
                clear bx1
                obtain ⟨wd, hw1⟩ : ∃ wd, wd = wc.alloc (.cells #[.int .i64 (gi (gr ps n) 1 - gi (gr ps n) 0), .int .i64 (gi (gr ps n) 3 - gi (gr ps n) 2), .slice A6 Cd.length c6] 30) := ⟨_, rfl⟩
                have d0 : wd.cell? ⟨wc.heap.size, 0, none⟩ = some (.int .i64 (gi (gr ps n) 1 - gi (gr ps n) 0)) := by rw [hw1]; go_simp
                have d1 : wd.cell? ⟨wc.heap.size, 1, none⟩ = some (.int .i64 (gi (gr ps n) 3 - gi (gr ps n) 2)) := by rw [hw1]; go_simp
                have d2 : wd.cell? ⟨wc.heap.size, 2, none⟩ = some (.slice A6 Cd.length c6) := by rw [hw1]; go_simp
                have bd : Below wc.heap.size wc wd := by rw [hw1]; exact (Below.refl _ _).alloc (Nat.le_refl _) _
                have zd : wc.heap.size < wd.heap.size := by rw [hw1]; simp
                rw [← hw1]
                clear hw1
                have HCut := Lib.hid (oc.ts.below bd (Nat.le_refl _))
                have HOd := Lib.hid ((HOr.out.below by1 (by omega)).below bd (by omega))
                have Hod := Lib.hid ((Ho.out.kept (.of_below by1 (Nat.le_refl _))).kept (.of_below bd (by omega)))
                have bw9 := (bw.trans (by1.mono (by omega))).trans (bd.mono (by omega))
                replace hcell := keepB bd (keepB by1 hcell)
                clear Ho e0 e1 e2 e3 by1 bw oc
                obtain ⟨bb, hbb⟩ : ∃ bb, decide (most < y) = bb := ⟨_, rfl⟩
                rw [hbb] at hcell HIN
                have hbn : (bb != bb) = false := by simp
                go_wp2
                refine wp_region_held_drew (S := fun w' => w'.cell? ⟨wc.heap.size, 0, none⟩ = some (.int .i64 (gi (gr ps n) 1 - gi (gr ps n) 0)) ∧ w'.cell? ⟨wc.heap.size, 1, none⟩ = some (.int .i64 (gi (gr ps n) 3 - gi (gr ps n) 2)) ∧ w'.cell? ⟨wc.heap.size, 2, none⟩ = some (.slice A6 Cd.length c6) ∧ w'.cell? ⟨w6.heap.size, n, none⟩ = some (.bool bb)) (by kernel_rfl) ?_ (fun hHeld => ?_)
                · (first | (try dsimp only); go_keep | (go_split_ands; refine ⟨?_, ?_, ?_, ?_⟩ <;> first | exact keepB bx5 (by assumption) | exact keepB bx4 (by assumption) | exact keepB bx3 (by assumption) | exact keepB bx2 (by assumption) | exact keepB bx1 (by assumption) | exact keepO bo5 (by first | (simp; done) | (simp; omega)) (by assumption) | exact keepO bo4 (by first | (simp; done) | (simp; omega)) (by assumption) | exact keepO bo3 (by first | (simp; done) | (simp; omega)) (by assumption) | exact keepO bo2 (by first | (simp; done) | (simp; omega)) (by assumption) | exact keepO bo1 (by first | (simp; done) | (simp; omega)) (by assumption) | exact keepW bg2 (by first | (simp; done) | (simp; omega)) (by assumption) | exact keepW bg1 (by first | (simp; done) | (simp; omega)) (by assumption) | assumption))
                refine wpAnyH_take (i := 0) (oi := ⟨some 95, _, _, _, _, _⟩) (v := _) rfl (by kernel_rfl) (by kernel_rfl) (by kernel_rfl) (fun _ _ _ h => h) (Or.inl ⟨by kernel_rfl, by intro w hSw; (try dsimp only at hSw); go_simp; try with_reducible rfl⟩) (by assumption) ?_
                simp only [Act.put, List.setIfInBounds_toArray, List.set_cons_zero, List.set_cons_succ]
                refine wpAnyH_take (i := 1) (oi := ⟨some 96, _, _, _, _, _⟩) (v := _) rfl (by kernel_rfl) (by kernel_rfl) (by kernel_rfl) (fun _ _ _ h => h) (Or.inl ⟨by kernel_rfl, by intro w hSw; (try dsimp only at hSw); go_simp; try with_reducible rfl⟩) (by assumption) ?_
                simp only [Act.put, List.setIfInBounds_toArray, List.set_cons_zero, List.set_cons_succ]
                refine wpAnyH_take (i := 2) (oi := ⟨some 97, _, _, _, _, _⟩) (v := _) rfl (by kernel_rfl) (by kernel_rfl) (by kernel_rfl) (fun _ _ _ h => h) (Or.inl ⟨by kernel_rfl, by intro w hSw; (try dsimp only at hSw); go_simp; try with_reducible rfl⟩) (by assumption) ?_
                simp only [Act.put, List.setIfInBounds_toArray, List.set_cons_zero, List.set_cons_succ]
                refine wpAnyH_take (i := 3) (oi := ⟨some 98, _, _, _, _, _⟩) (v := _) rfl (by kernel_rfl) (by kernel_rfl) (by kernel_rfl) (fun _ _ _ h => h) (Or.inl ⟨by kernel_rfl, by intro w hSw; (try dsimp only at hSw); go_simp; try with_reducible rfl⟩) (by assumption) ?_
                simp only [Act.put, List.setIfInBounds_toArray, List.set_cons_zero, List.set_cons_succ]
                refine wpAnyH_take (i := 4) (oi := ⟨some 99, _, _, _, _, _⟩) (v := _) rfl (by kernel_rfl) (by kernel_rfl) (by kernel_rfl) (fun _ _ _ h => h) (Or.inl ⟨by kernel_rfl, by intro w hSw; (try dsimp only at hSw); go_simp; try with_reducible rfl⟩) (by assumption) ?_
                simp only [Act.put, List.setIfInBounds_toArray, List.set_cons_zero, List.set_cons_succ]
                refine wpAnyH_take (i := 5) (oi := ⟨some 100, _, _, _, _, _⟩) (v := _) rfl (by kernel_rfl) (by kernel_rfl) (by kernel_rfl) (fun _ _ _ h => h) (Or.inl ⟨by kernel_rfl, by intro w hSw; (try dsimp only at hSw); go_simp; try with_reducible rfl⟩) (by assumption) ?_
                simp only [Act.put, List.setIfInBounds_toArray, List.set_cons_zero, List.set_cons_succ]
                refine wpAnyH_ready (rs := [6]) (by kernel_rfl) (by simp) ?_
                refine AllReadyH.cons (o := ⟨some 101, _, _, _, _, _⟩) rfl (fun K hK => ?_) AllReadyH.nil
                go_simp
                go_at_call 51
                refine (isIn_any _ _ _ R _ _ (HOd.out.drewN 1)).mono ?_
                rw [HIN.out]
                rintro e x8 ⟨rfl, rfl⟩
                go_wp2_with fail
                refine hK.out _ _ ?_ (fun hHeld2 => ?_)
                · (first | (try dsimp only); go_keep | (go_split_ands; refine ⟨?_, ?_, ?_, ?_⟩ <;> first | exact keepB bx5 (by assumption) | exact keepB bx4 (by assumption) | exact keepB bx3 (by assumption) | exact keepB bx2 (by assumption) | exact keepB bx1 (by assumption) | exact keepO bo5 (by first | (simp; done) | (simp; omega)) (by assumption) | exact keepO bo4 (by first | (simp; done) | (simp; omega)) (by assumption) | exact keepO bo3 (by first | (simp; done) | (simp; omega)) (by assumption) | exact keepO bo2 (by first | (simp; done) | (simp; omega)) (by assumption) | exact keepO bo1 (by first | (simp; done) | (simp; omega)) (by assumption) | exact keepW bg2 (by first | (simp; done) | (simp; omega)) (by assumption) | exact keepW bg1 (by first | (simp; done) | (simp; omega)) (by assumption) | assumption))
                clear hK K hHeld
                have hHeld := hHeld2
                clear hHeld2
                try simp only [Act.put, List.setIfInBounds_toArray, List.set_cons_zero, List.set_cons_succ]
                refine wpAnyH_take (i := 7) (oi := ⟨some 102, _, _, _, _, _⟩) (v := _) rfl (by kernel_rfl) (by kernel_rfl) (by kernel_rfl) (fun _ _ _ h => h) (Or.inl ⟨by kernel_rfl, by intro w hSw; (try dsimp only at hSw); go_simp; try with_reducible rfl⟩) (by assumption) ?_
                simp only [Act.put, List.setIfInBounds_toArray, List.set_cons_zero, List.set_cons_succ]
                refine wpAnyH_take (i := 8) (oi := ⟨some 103, _, _, _, _, _⟩) (v := _) rfl (by kernel_rfl) (by kernel_rfl) (by kernel_rfl) (fun _ _ _ h => h) (Or.inl ⟨by kernel_rfl, by intro w hSw; (try dsimp only at hSw); go_simp; try with_reducible rfl⟩) (by assumption) ?_
                simp only [Act.put, List.setIfInBounds_toArray, List.set_cons_zero, List.set_cons_succ]
                refine wpAnyH_take (i := 9) (oi := ⟨some 104, _, _, _, _, _⟩) (v := _) rfl (by kernel_rfl) (by kernel_rfl) (by kernel_rfl) (fun _ _ _ h => h) (Or.inl ⟨by kernel_rfl, by intro w hSw; (try dsimp only at hSw); go_simp; try with_reducible rfl⟩) (by assumption) ?_
                simp only [Act.put, List.setIfInBounds_toArray, List.set_cons_zero, List.set_cons_succ]
                refine wpAnyH_take (i := 10) (oi := ⟨some 105, _, _, _, _, _⟩) (v := _) rfl (by kernel_rfl) (by kernel_rfl) (by kernel_rfl) (fun _ _ _ h => h) (Or.inl ⟨by kernel_rfl, by intro w hSw; (try dsimp only at hSw); go_simp; try with_reducible rfl⟩) (by assumption) ?_
                simp only [Act.put, List.setIfInBounds_toArray, List.set_cons_zero, List.set_cons_succ]
                refine wpAnyH_take (i := 13) (oi := ⟨some 108, _, _, _, _, _⟩) (v := _) rfl (by kernel_rfl) (by kernel_rfl) (by kernel_rfl) (fun _ _ _ h => h) (Or.inl ⟨by kernel_rfl, by intro w hSw; (try dsimp only at hSw); go_simp; try with_reducible rfl⟩) (by assumption) ?_
                simp only [Act.put, List.setIfInBounds_toArray, List.set_cons_zero, List.set_cons_succ]
                refine wpAnyH_take (i := 15) (oi := ⟨some 110, _, _, _, _, _⟩) (v := _) rfl (by kernel_rfl) (by kernel_rfl) (by kernel_rfl) (fun _ _ _ h => h) (Or.inl ⟨by kernel_rfl, by intro w hSw; (try dsimp only at hSw); go_simp; try with_reducible rfl⟩) (by assumption) ?_
                simp only [Act.put, List.setIfInBounds_toArray, List.set_cons_zero, List.set_cons_succ]
                refine wpAnyH_take (i := 16) (oi := ⟨some 111, _, _, _, _, _⟩) (v := _) rfl (by kernel_rfl) (by kernel_rfl) (by kernel_rfl) (fun _ _ _ h => h) (Or.inl ⟨by kernel_rfl, by intro w hSw; (try dsimp only at hSw); go_simp; try with_reducible rfl⟩) (by assumption) ?_
                simp only [Act.put, List.setIfInBounds_toArray, List.set_cons_zero, List.set_cons_succ]
                refine wpAnyH_take (i := 17) (oi := ⟨some 112, _, _, _, _, _⟩) (v := _) rfl (by kernel_rfl) (by kernel_rfl) (by kernel_rfl) (fun _ _ _ h => h) (Or.inl ⟨by kernel_rfl, by intro w hSw; (try dsimp only at hSw); go_simp; try with_reducible rfl⟩) (by assumption) ?_
                simp only [Act.put, List.setIfInBounds_toArray, List.set_cons_zero, List.set_cons_succ]
                refine wpAnyH_take (i := 18) (oi := ⟨some 113, _, _, _, _, _⟩) (v := _) rfl (by kernel_rfl) (by kernel_rfl) (by kernel_rfl) (fun _ _ _ h => h) (Or.inl ⟨by kernel_rfl, by intro w hSw; (try dsimp only at hSw); go_simp; try with_reducible rfl⟩) (by assumption) ?_
                simp only [Act.put, List.setIfInBounds_toArray, List.set_cons_zero, List.set_cons_succ]
                refine wpAnyH_ready (rs := [11]) (by kernel_rfl) (by simp) ?_
                refine AllReadyH.cons (o := ⟨some 106, _, _, _, _, _⟩) rfl (fun K hK => ?_) AllReadyH.nil
                go_simp
                go_at_call 53
                refine (whole_any _ _ _ _ _ _).mono ?_
                rintro e x9 ⟨rfl, bx2⟩
                go_wp2_with fail
                refine hK.out _ _ ?_ (fun hHeld2 => ?_)
                · (first | (try dsimp only); go_keep | (go_split_ands; refine ⟨?_, ?_, ?_, ?_⟩ <;> first | exact keepB bx5 (by assumption) | exact keepB bx4 (by assumption) | exact keepB bx3 (by assumption) | exact keepB bx2 (by assumption) | exact keepB bx1 (by assumption) | exact keepO bo5 (by first | (simp; done) | (simp; omega)) (by assumption) | exact keepO bo4 (by first | (simp; done) | (simp; omega)) (by assumption) | exact keepO bo3 (by first | (simp; done) | (simp; omega)) (by assumption) | exact keepO bo2 (by first | (simp; done) | (simp; omega)) (by assumption) | exact keepO bo1 (by first | (simp; done) | (simp; omega)) (by assumption) | exact keepW bg2 (by first | (simp; done) | (simp; omega)) (by assumption) | exact keepW bg1 (by first | (simp; done) | (simp; omega)) (by assumption) | assumption))
                clear hK K hHeld
                have hHeld := hHeld2
                clear hHeld2
                try simp only [Act.put, List.setIfInBounds_toArray, List.set_cons_zero, List.set_cons_succ]
                refine wpAnyH_ready (rs := [12]) (by kernel_rfl) (by simp) ?_
                refine AllReadyH.cons (o := ⟨some 107, _, _, _, _, _⟩) rfl (fun K hK => ?_) AllReadyH.nil
                go_simp
                go_at_call 52
                refine (WorstOf_any _ _ _ _ _ Cd _ _ _ _ _ ((HCut.out.drewN 1).below bx2 (by first | (simp; done) | (simp; omega))) (by have := (of_drew bx2).size; omega)).mono ?_
                rw [HW.out]
                rintro e x10 ⟨rfl, bx3⟩
                go_wp2_with fail
                refine hK.out _ _ ?_ (fun hHeld2 => ?_)
                · (first | (try dsimp only); go_keep | (go_split_ands; refine ⟨?_, ?_, ?_, ?_⟩ <;> first | exact keepB bx5 (by assumption) | exact keepB bx4 (by assumption) | exact keepB bx3 (by assumption) | exact keepB bx2 (by assumption) | exact keepB bx1 (by assumption) | exact keepO bo5 (by first | (simp; done) | (simp; omega)) (by assumption) | exact keepO bo4 (by first | (simp; done) | (simp; omega)) (by assumption) | exact keepO bo3 (by first | (simp; done) | (simp; omega)) (by assumption) | exact keepO bo2 (by first | (simp; done) | (simp; omega)) (by assumption) | exact keepO bo1 (by first | (simp; done) | (simp; omega)) (by assumption) | exact keepW bg2 (by first | (simp; done) | (simp; omega)) (by assumption) | exact keepW bg1 (by first | (simp; done) | (simp; omega)) (by assumption) | assumption))
                clear hK K hHeld
                have hHeld := hHeld2
                clear hHeld2
                try simp only [Act.put, List.setIfInBounds_toArray, List.set_cons_zero, List.set_cons_succ]
                refine wpAnyH_take (i := 14) (oi := ⟨some 109, _, _, _, _, _⟩) (v := _) rfl (by kernel_rfl) (by kernel_rfl) (by kernel_rfl) (fun _ _ _ h => h) (Or.inl ⟨by kernel_rfl, by intro w hSw; (try dsimp only at hSw); go_simp; try with_reducible rfl⟩) (by assumption) ?_
                simp only [Act.put, List.setIfInBounds_toArray, List.set_cons_zero, List.set_cons_succ]
                refine wpAnyH_take (i := 19) (oi := ⟨some 114, _, _, _, _, _⟩) (v := _) rfl (by kernel_rfl) (by kernel_rfl) (by kernel_rfl) (fun _ _ _ h => h) (Or.inl ⟨by kernel_rfl, by intro w hSw; (try dsimp only at hSw); go_simp; try with_reducible rfl⟩) (by assumption) ?_
                simp only [Act.put, List.setIfInBounds_toArray, List.set_cons_zero, List.set_cons_succ]
                refine wpAnyH_take (i := 20) (oi := ⟨some 115, _, _, _, _, _⟩) (v := _) rfl (by kernel_rfl) (by kernel_rfl) (by kernel_rfl) (fun _ _ _ h => h) (Or.inl ⟨by kernel_rfl, by intro w hSw; (try dsimp only at hSw); go_simp; try with_reducible rfl⟩) (by assumption) ?_
                simp only [Act.put, List.setIfInBounds_toArray, List.set_cons_zero, List.set_cons_succ]
                refine wpAnyH_done (by kernel_rfl) ?_ _
                have bd9 := (of_drew bx2).trans (bx3.mono (of_drew bx2).size)
                go_wp2
                go_roundw
                case rel => exact ⟨n + 1, by omega, by go_num, Hod.out.kept (.of_below bd9 (Nat.le_refl _)), bw9.trans (bd9.mono (by have := bw9.size; omega))⟩
                case measure => simp [intOf]; omega
              · have hz9 := by1.size
                have hzr2 : w6.heap.size < wr.heap.size := by have := bw.size; omega
                have bqc : Below wr.heap.size wr wc := bq.trans (by1.mono (by omega))
                obtain ⟨wd, hwd⟩ : ∃ wd, wd = ((wc.setCell ⟨wr.heap.size, 0, none⟩ (.int .i64 (gi (gr ps n) 1 - gi (gr ps n) 0))).setCell ⟨wr.heap.size, 1, none⟩ (.int .i64 (gi (gr ps n) 3 - gi (gr ps n) 2))).setCell ⟨wr.heap.size, 2, none⟩ (.slice A6 Cd.length c6) := ⟨_, rfl⟩
                have bd : Below wr.heap.size wr wd := by rw [hwd]; exact ((bqc.setCell (Nat.le_refl _) _).setCell (Nat.le_refl _) _).setCell (Nat.le_refl _) _
                have g0 : wd.cell? ⟨wr.heap.size, 0, none⟩ = some (.int .i64 (gi (gr ps n) 1 - gi (gr ps n) 0)) := by rw [hwd]; go_simp
                have g1 : wd.cell? ⟨wr.heap.size, 1, none⟩ = some (.int .i64 (gi (gr ps n) 3 - gi (gr ps n) 2)) := by rw [hwd]; go_simp
                have g2 : wd.cell? ⟨wr.heap.size, 2, none⟩ = some (.slice A6 Cd.length c6) := by rw [hwd]; go_simp
                have HCut := Lib.hid (show TS wd _ wd.heap.size 5 (.slice A6 Cd.length c6) Cd by rw [hwd]; exact (((oc.setBelow (p := ⟨wr.heap.size, 0, none⟩) (by show wr.heap.size < _; omega) _).setBelow (p := ⟨wr.heap.size, 1, none⟩) (by show wr.heap.size < _; omega) _).setBelow (p := ⟨wr.heap.size, 2, none⟩) (by show wr.heap.size < _; omega) _).ts)
                rw [← hwd]
                clear hwd d0 d1 d2 fd0 fd1 fd2
                have HOd := Lib.hid (HOr.out.below bd (by omega))
                have Hod := Lib.hid (Ho.out.kept (.of_below bd (Nat.le_refl _)))
                have bw9 := bw.trans (bd.mono (by omega))
                replace hcell := keepB bd hcell
                clear Ho e0 e1 e2 e3 by1 bw oc bq bqc
                obtain ⟨bb, hbb⟩ : ∃ bb, decide (most < y) = bb := ⟨_, rfl⟩
                rw [hbb] at hcell HIN
                have hbn : (bb != bb) = false := by simp
                go_wp2
                refine wp_region_held_drew (S := fun w' => w'.cell? ⟨wr.heap.size, 0, none⟩ = some (.int .i64 (gi (gr ps n) 1 - gi (gr ps n) 0)) ∧ w'.cell? ⟨wr.heap.size, 1, none⟩ = some (.int .i64 (gi (gr ps n) 3 - gi (gr ps n) 2)) ∧ w'.cell? ⟨wr.heap.size, 2, none⟩ = some (.slice A6 Cd.length c6) ∧ w'.cell? ⟨w6.heap.size, n, none⟩ = some (.bool bb)) (by kernel_rfl) ?_ (fun hHeld => ?_)
                · (first | (try dsimp only); go_keep | (go_split_ands; refine ⟨?_, ?_, ?_, ?_⟩ <;> first | exact keepB bx5 (by assumption) | exact keepB bx4 (by assumption) | exact keepB bx3 (by assumption) | exact keepB bx2 (by assumption) | exact keepB bx1 (by assumption) | exact keepO bo5 (by first | (simp; done) | (simp; omega)) (by assumption) | exact keepO bo4 (by first | (simp; done) | (simp; omega)) (by assumption) | exact keepO bo3 (by first | (simp; done) | (simp; omega)) (by assumption) | exact keepO bo2 (by first | (simp; done) | (simp; omega)) (by assumption) | exact keepO bo1 (by first | (simp; done) | (simp; omega)) (by assumption) | exact keepW bg2 (by first | (simp; done) | (simp; omega)) (by assumption) | exact keepW bg1 (by first | (simp; done) | (simp; omega)) (by assumption) | assumption))
                refine wpAnyH_take (i := 0) (oi := ⟨some 95, _, _, _, _, _⟩) (v := _) rfl (by kernel_rfl) (by kernel_rfl) (by kernel_rfl) (fun _ _ _ h => h) (Or.inl ⟨by kernel_rfl, by intro w hSw; (try dsimp only at hSw); go_simp; try with_reducible rfl⟩) (by assumption) ?_
                simp only [Act.put, List.setIfInBounds_toArray, List.set_cons_zero, List.set_cons_succ]
                refine wpAnyH_take (i := 1) (oi := ⟨some 96, _, _, _, _, _⟩) (v := _) rfl (by kernel_rfl) (by kernel_rfl) (by kernel_rfl) (fun _ _ _ h => h) (Or.inl ⟨by kernel_rfl, by intro w hSw; (try dsimp only at hSw); go_simp; try with_reducible rfl⟩) (by assumption) ?_
                simp only [Act.put, List.setIfInBounds_toArray, List.set_cons_zero, List.set_cons_succ]
                refine wpAnyH_take (i := 2) (oi := ⟨some 97, _, _, _, _, _⟩) (v := _) rfl (by kernel_rfl) (by kernel_rfl) (by kernel_rfl) (fun _ _ _ h => h) (Or.inl ⟨by kernel_rfl, by intro w hSw; (try dsimp only at hSw); go_simp; try with_reducible rfl⟩) (by assumption) ?_
                simp only [Act.put, List.setIfInBounds_toArray, List.set_cons_zero, List.set_cons_succ]
                refine wpAnyH_take (i := 3) (oi := ⟨some 98, _, _, _, _, _⟩) (v := _) rfl (by kernel_rfl) (by kernel_rfl) (by kernel_rfl) (fun _ _ _ h => h) (Or.inl ⟨by kernel_rfl, by intro w hSw; (try dsimp only at hSw); go_simp; try with_reducible rfl⟩) (by assumption) ?_
                simp only [Act.put, List.setIfInBounds_toArray, List.set_cons_zero, List.set_cons_succ]
                refine wpAnyH_take (i := 4) (oi := ⟨some 99, _, _, _, _, _⟩) (v := _) rfl (by kernel_rfl) (by kernel_rfl) (by kernel_rfl) (fun _ _ _ h => h) (Or.inl ⟨by kernel_rfl, by intro w hSw; (try dsimp only at hSw); go_simp; try with_reducible rfl⟩) (by assumption) ?_
                simp only [Act.put, List.setIfInBounds_toArray, List.set_cons_zero, List.set_cons_succ]
                refine wpAnyH_take (i := 5) (oi := ⟨some 100, _, _, _, _, _⟩) (v := _) rfl (by kernel_rfl) (by kernel_rfl) (by kernel_rfl) (fun _ _ _ h => h) (Or.inl ⟨by kernel_rfl, by intro w hSw; (try dsimp only at hSw); go_simp; try with_reducible rfl⟩) (by assumption) ?_
                simp only [Act.put, List.setIfInBounds_toArray, List.set_cons_zero, List.set_cons_succ]
                refine wpAnyH_ready (rs := [6]) (by kernel_rfl) (by simp) ?_
                refine AllReadyH.cons (o := ⟨some 101, _, _, _, _, _⟩) rfl (fun K hK => ?_) AllReadyH.nil
                go_simp
                go_at_call 51
                refine (isIn_any _ _ _ R _ _ (HOd.out.drewN 1)).mono ?_
                rw [HIN.out]
                rintro e x8 ⟨rfl, rfl⟩
                go_wp2_with fail
                refine hK.out _ _ ?_ (fun hHeld2 => ?_)
                · (first | (try dsimp only); go_keep | (go_split_ands; refine ⟨?_, ?_, ?_, ?_⟩ <;> first | exact keepB bx5 (by assumption) | exact keepB bx4 (by assumption) | exact keepB bx3 (by assumption) | exact keepB bx2 (by assumption) | exact keepB bx1 (by assumption) | exact keepO bo5 (by first | (simp; done) | (simp; omega)) (by assumption) | exact keepO bo4 (by first | (simp; done) | (simp; omega)) (by assumption) | exact keepO bo3 (by first | (simp; done) | (simp; omega)) (by assumption) | exact keepO bo2 (by first | (simp; done) | (simp; omega)) (by assumption) | exact keepO bo1 (by first | (simp; done) | (simp; omega)) (by assumption) | exact keepW bg2 (by first | (simp; done) | (simp; omega)) (by assumption) | exact keepW bg1 (by first | (simp; done) | (simp; omega)) (by assumption) | assumption))
                clear hK K hHeld
                have hHeld := hHeld2
                clear hHeld2
                try simp only [Act.put, List.setIfInBounds_toArray, List.set_cons_zero, List.set_cons_succ]
                refine wpAnyH_take (i := 7) (oi := ⟨some 102, _, _, _, _, _⟩) (v := _) rfl (by kernel_rfl) (by kernel_rfl) (by kernel_rfl) (fun _ _ _ h => h) (Or.inl ⟨by kernel_rfl, by intro w hSw; (try dsimp only at hSw); go_simp; try with_reducible rfl⟩) (by assumption) ?_
                simp only [Act.put, List.setIfInBounds_toArray, List.set_cons_zero, List.set_cons_succ]
                refine wpAnyH_take (i := 8) (oi := ⟨some 103, _, _, _, _, _⟩) (v := _) rfl (by kernel_rfl) (by kernel_rfl) (by kernel_rfl) (fun _ _ _ h => h) (Or.inl ⟨by kernel_rfl, by intro w hSw; (try dsimp only at hSw); go_simp; try with_reducible rfl⟩) (by assumption) ?_
                simp only [Act.put, List.setIfInBounds_toArray, List.set_cons_zero, List.set_cons_succ]
                refine wpAnyH_take (i := 9) (oi := ⟨some 104, _, _, _, _, _⟩) (v := _) rfl (by kernel_rfl) (by kernel_rfl) (by kernel_rfl) (fun _ _ _ h => h) (Or.inl ⟨by kernel_rfl, by intro w hSw; (try dsimp only at hSw); go_simp; try with_reducible rfl⟩) (by assumption) ?_
                simp only [Act.put, List.setIfInBounds_toArray, List.set_cons_zero, List.set_cons_succ]
                refine wpAnyH_take (i := 10) (oi := ⟨some 105, _, _, _, _, _⟩) (v := _) rfl (by kernel_rfl) (by kernel_rfl) (by kernel_rfl) (fun _ _ _ h => h) (Or.inl ⟨by kernel_rfl, by intro w hSw; (try dsimp only at hSw); go_simp; try with_reducible rfl⟩) (by assumption) ?_
                simp only [Act.put, List.setIfInBounds_toArray, List.set_cons_zero, List.set_cons_succ]
                refine wpAnyH_take (i := 13) (oi := ⟨some 108, _, _, _, _, _⟩) (v := _) rfl (by kernel_rfl) (by kernel_rfl) (by kernel_rfl) (fun _ _ _ h => h) (Or.inl ⟨by kernel_rfl, by intro w hSw; (try dsimp only at hSw); go_simp; try with_reducible rfl⟩) (by assumption) ?_
                simp only [Act.put, List.setIfInBounds_toArray, List.set_cons_zero, List.set_cons_succ]
                refine wpAnyH_take (i := 15) (oi := ⟨some 110, _, _, _, _, _⟩) (v := _) rfl (by kernel_rfl) (by kernel_rfl) (by kernel_rfl) (fun _ _ _ h => h) (Or.inl ⟨by kernel_rfl, by intro w hSw; (try dsimp only at hSw); go_simp; try with_reducible rfl⟩) (by assumption) ?_
                simp only [Act.put, List.setIfInBounds_toArray, List.set_cons_zero, List.set_cons_succ]
                refine wpAnyH_take (i := 16) (oi := ⟨some 111, _, _, _, _, _⟩) (v := _) rfl (by kernel_rfl) (by kernel_rfl) (by kernel_rfl) (fun _ _ _ h => h) (Or.inl ⟨by kernel_rfl, by intro w hSw; (try dsimp only at hSw); go_simp; try with_reducible rfl⟩) (by assumption) ?_
                simp only [Act.put, List.setIfInBounds_toArray, List.set_cons_zero, List.set_cons_succ]
                refine wpAnyH_take (i := 17) (oi := ⟨some 112, _, _, _, _, _⟩) (v := _) rfl (by kernel_rfl) (by kernel_rfl) (by kernel_rfl) (fun _ _ _ h => h) (Or.inl ⟨by kernel_rfl, by intro w hSw; (try dsimp only at hSw); go_simp; try with_reducible rfl⟩) (by assumption) ?_
                simp only [Act.put, List.setIfInBounds_toArray, List.set_cons_zero, List.set_cons_succ]
                refine wpAnyH_take (i := 18) (oi := ⟨some 113, _, _, _, _, _⟩) (v := _) rfl (by kernel_rfl) (by kernel_rfl) (by kernel_rfl) (fun _ _ _ h => h) (Or.inl ⟨by kernel_rfl, by intro w hSw; (try dsimp only at hSw); go_simp; try with_reducible rfl⟩) (by assumption) ?_
                simp only [Act.put, List.setIfInBounds_toArray, List.set_cons_zero, List.set_cons_succ]
                refine wpAnyH_ready (rs := [11]) (by kernel_rfl) (by simp) ?_
                refine AllReadyH.cons (o := ⟨some 106, _, _, _, _, _⟩) rfl (fun K hK => ?_) AllReadyH.nil
                go_simp
                go_at_call 53
                refine (whole_any _ _ _ _ _ _).mono ?_
                rintro e x9 ⟨rfl, bx2⟩
                go_wp2_with fail
                refine hK.out _ _ ?_ (fun hHeld2 => ?_)
                · (first | (try dsimp only); go_keep | (go_split_ands; refine ⟨?_, ?_, ?_, ?_⟩ <;> first | exact keepB bx5 (by assumption) | exact keepB bx4 (by assumption) | exact keepB bx3 (by assumption) | exact keepB bx2 (by assumption) | exact keepB bx1 (by assumption) | exact keepO bo5 (by first | (simp; done) | (simp; omega)) (by assumption) | exact keepO bo4 (by first | (simp; done) | (simp; omega)) (by assumption) | exact keepO bo3 (by first | (simp; done) | (simp; omega)) (by assumption) | exact keepO bo2 (by first | (simp; done) | (simp; omega)) (by assumption) | exact keepO bo1 (by first | (simp; done) | (simp; omega)) (by assumption) | exact keepW bg2 (by first | (simp; done) | (simp; omega)) (by assumption) | exact keepW bg1 (by first | (simp; done) | (simp; omega)) (by assumption) | assumption))
                clear hK K hHeld
                have hHeld := hHeld2
                clear hHeld2
                try simp only [Act.put, List.setIfInBounds_toArray, List.set_cons_zero, List.set_cons_succ]
                refine wpAnyH_ready (rs := [12]) (by kernel_rfl) (by simp) ?_
                refine AllReadyH.cons (o := ⟨some 107, _, _, _, _, _⟩) rfl (fun K hK => ?_) AllReadyH.nil
                go_simp
                go_at_call 52
                refine (WorstOf_any _ _ _ _ _ Cd _ _ _ _ _ ((HCut.out.drewN 1).below bx2 (by first | (simp; done) | (simp; omega))) (by have := (of_drew bx2).size; omega)).mono ?_
                rw [HW.out]
                rintro e x10 ⟨rfl, bx3⟩
                go_wp2_with fail
                refine hK.out _ _ ?_ (fun hHeld2 => ?_)
                · (first | (try dsimp only); go_keep | (go_split_ands; refine ⟨?_, ?_, ?_, ?_⟩ <;> first | exact keepB bx5 (by assumption) | exact keepB bx4 (by assumption) | exact keepB bx3 (by assumption) | exact keepB bx2 (by assumption) | exact keepB bx1 (by assumption) | exact keepO bo5 (by first | (simp; done) | (simp; omega)) (by assumption) | exact keepO bo4 (by first | (simp; done) | (simp; omega)) (by assumption) | exact keepO bo3 (by first | (simp; done) | (simp; omega)) (by assumption) | exact keepO bo2 (by first | (simp; done) | (simp; omega)) (by assumption) | exact keepO bo1 (by first | (simp; done) | (simp; omega)) (by assumption) | exact keepW bg2 (by first | (simp; done) | (simp; omega)) (by assumption) | exact keepW bg1 (by first | (simp; done) | (simp; omega)) (by assumption) | assumption))
                clear hK K hHeld
                have hHeld := hHeld2
                clear hHeld2
                try simp only [Act.put, List.setIfInBounds_toArray, List.set_cons_zero, List.set_cons_succ]
                refine wpAnyH_take (i := 14) (oi := ⟨some 109, _, _, _, _, _⟩) (v := _) rfl (by kernel_rfl) (by kernel_rfl) (by kernel_rfl) (fun _ _ _ h => h) (Or.inl ⟨by kernel_rfl, by intro w hSw; (try dsimp only at hSw); go_simp; try with_reducible rfl⟩) (by assumption) ?_
                simp only [Act.put, List.setIfInBounds_toArray, List.set_cons_zero, List.set_cons_succ]
                refine wpAnyH_take (i := 19) (oi := ⟨some 114, _, _, _, _, _⟩) (v := _) rfl (by kernel_rfl) (by kernel_rfl) (by kernel_rfl) (fun _ _ _ h => h) (Or.inl ⟨by kernel_rfl, by intro w hSw; (try dsimp only at hSw); go_simp; try with_reducible rfl⟩) (by assumption) ?_
                simp only [Act.put, List.setIfInBounds_toArray, List.set_cons_zero, List.set_cons_succ]
                refine wpAnyH_take (i := 20) (oi := ⟨some 115, _, _, _, _, _⟩) (v := _) rfl (by kernel_rfl) (by kernel_rfl) (by kernel_rfl) (fun _ _ _ h => h) (Or.inl ⟨by kernel_rfl, by intro w hSw; (try dsimp only at hSw); go_simp; try with_reducible rfl⟩) (by assumption) ?_
                simp only [Act.put, List.setIfInBounds_toArray, List.set_cons_zero, List.set_cons_succ]
                refine wpAnyH_done (by kernel_rfl) ?_ _
                have bd9 := (of_drew bx2).trans (bx3.mono (of_drew bx2).size)
                go_wp2
                go_roundw
                case rel => exact ⟨n + 1, by omega, by go_num, Hod.out.kept (.of_below bd9 (Nat.le_refl _)), bw9.trans (bd9.mono (by have := bw9.size; omega))⟩
                case measure => simp [intOf]; omega
            · have He := Lib.hid (show n = ps.length by omega)
              go_wp2
              go_ret
              exact ⟨rfl, B7.trans (bw.mono (by omega))⟩
    · have hmm : vCuts W L ds ps = true → most < 0 := fun hv => by
        apply Classical.byContradiction
        intro hn
        exact hgo ⟨hv, by omega⟩
      cases hv : vCuts W L ds ps
      · clear hmm hgo hv
        go_wp2_with fail
        refine (sBadRolls_any _ _ _ _ W L _ _ ds ps most w6 ou.ts (Nat.le_refl _) op.ts (Nat.le_refl _)).mono ?_
        rw [← HR.out]
        rintro e w7 ⟨vs2, rfl, os2, b⟩
        have s7 := b.size
        have B7 := B6.trans (b.mono (by omega))
        replace oo := oo.kept (.of_below b (Nat.le_refl _))
        go_wp2_with fail
        refine (equalInts_same _ _ _ _ _ _ R w7 oo.ints os2.ints).mono ?_
        rintro e w8 ⟨rfl, q⟩
        go_wp2
        go_ret
        exact ⟨rfl, B7.trans ((q.below w7.heap.size).mono (by omega))⟩
      · have hneg := hmm hv
        clear hmm hgo hv
        go_wp2_with fail
        refine (sBadRolls_any _ _ _ _ W L _ _ ds ps most w6 ou.ts (Nat.le_refl _) op.ts (Nat.le_refl _)).mono ?_
        rw [← HR.out]
        rintro e w7 ⟨vs2, rfl, os2, b⟩
        have s7 := b.size
        have B7 := B6.trans (b.mono (by omega))
        replace oo := oo.kept (.of_below b (Nat.le_refl _))
        go_wp2_with fail
        refine (equalInts_same _ _ _ _ _ _ R w7 oo.ints os2.ints).mono ?_
        rintro e w8 ⟨rfl, q⟩
        go_wp2
        go_ret
        exact ⟨rfl, B7.trans ((q.below w7.heap.size).mono (by omega))⟩
end Go.Proofs.Ytodbgkflakfjpaa
