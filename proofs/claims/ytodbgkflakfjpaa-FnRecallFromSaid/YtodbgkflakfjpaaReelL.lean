/-
  Lemmas and contracts of single functions of this program, used by the proofs of its laws: what each call returns and what becomes of memory. Conditions: the hypotheses of each theorem.
-/
import Derived.Test.YtodbgkflakfjpaaReelK
namespace Go.Proofs.Ytodbgkflakfjpaa
open Go.RowKit
attribute [local go_sem ↓] Go.wp_at_zero Go.wp_at_succ

set_option maxRecDepth 100000 in
set_option maxHeartbeats 1600000 in
theorem sRollsWith_any (lo hi l2 h2 : Nat) (W L : Int) (v u : Value) (ds ps : List (List Int)) (m : Int) (w : World) (h : TS w lo hi 5 v ds) (hhi : hi ≤ w.heap.size) (hp : TS w l2 h2 4 u ps) (hh2 : h2 ≤ w.heap.size) :
    Calls Try.prog 25 #[.agg #[.int .i64 W, .int .i64 L, v], u, .int .i64 m] w fun e w' => ∃ v', e = .returned v' ∧ OwnI w' w.heap.size 3 v' (rwL W L ds ps m) ∧ Below w.heap.size w w' := by
  obtain ⟨A, c, rfl, hc, hm⟩ := h.form
  obtain ⟨B, c2, rfl, hc2, hm2⟩ := hp.form
  have Hs := Lib.hid (show ∃ w1, w1 = (w.alloc (.cells #[.int .i64 W, .int .i64 L, .slice A ds.length c] 30)) ∧ Below w.heap.size w w1 ∧ w1.cell? ⟨w.heap.size, 0, none⟩ = some (.int .i64 W) ∧ w1.cell? ⟨w.heap.size, 1, none⟩ = some (.int .i64 L) ∧ w1.cell? ⟨w.heap.size, 2, none⟩ = some (.slice A ds.length c) ∧ TS w1 lo hi 5 (.slice A ds.length c) ds ∧ TS w1 l2 h2 4 (.slice B ps.length c2) ps ∧ w.heap.size < w1.heap.size from by
    have hb : Below w.heap.size w (w.alloc (.cells #[.int .i64 W, .int .i64 L, .slice A ds.length c] 30)) := (Below.refl _ _).alloc (Nat.le_refl _) _
    exact ⟨_, rfl, hb, by go_simp, by go_simp, by go_simp, h.below hb hhi, hp.below hb hh2, by simp⟩)
  obtain ⟨R, hR⟩ : ∃ R, R = rwL W L ds ps m := ⟨_, rfl⟩
  rw [← hR]
  have HR := Lib.hid hR
  clear hR
  go_enter Try.func25, Try.ntmps25
  go_wp2_with (fail)
  obtain ⟨w1, hw1, hb0, c00, c01, c02, hT0, hT1, hz⟩ := Hs.out
  rw [← hw1]
  clear hw1 Hs
  refine (validCuts_any lo hi l2 h2 W L _ _ ds ps w1 hT0 (by omega) hT1 (by omega)).mono ?_
  rintro e x1 ⟨rfl, bx1⟩
  replace c00 := keepB bx1 c00; replace c01 := keepB bx1 c01; replace c02 := keepB bx1 c02
  have hD := hT0.below bx1 (by omega)
  have hP := hT1.below bx1 (by omega)
  have hz1 := bx1.size
  have Hb := Lib.hid (hb0.trans (bx1.mono (Nat.le_of_lt hz)))
  clear hT0 hT1 h hp bx1 hb0
  cases hv : vCuts W L ds ps
  · have Hno := Lib.hid (show R = [] by rw [HR.out]; unfold rwL; rw [hv]; exact if_neg (by simp))
    go_wp2
    go_ret
    exact ⟨_, rfl, by rw [Hno.out]; exact OwnI.nil _ _ _, Hb.out⟩
  · have Hv := Lib.hid hv
    clear hv
    by_cases hi' : 0 ≤ m ∧ m < ds.length
    · have hin : inR 0 ((ds.length : Int) - 1) m = true := inR_mk ⟨hi'.1, by omega⟩
      obtain ⟨k, rfl⟩ : ∃ k : Nat, m = (k : Int) := ⟨m.toNat, by omega⟩
      have hk : k < ds.length := by omega
      have HI := Lib.hid hi'
      have Hyes := Lib.hid (show R = selL (fun i => mT (gr ps i) [gi (gr ds k) 0, gi (gr ds k) 1, gi (gr ds k) 2, gi (gr ds k) 3, gi (gr ds k) 4]) ps.length by rw [HR.out]; unfold rwL; rw [if_pos ⟨Hv.out, HI.out⟩]; rfl)
      have hlp : ps.length ≤ 60 := (vCuts_iff.1 Hv.out).2.1
      obtain ⟨b, o, rfl, hb2, hb3, e0, e1, e2, e3, e4⟩ := hD.c5 hk
      have hk0 : (0 : Int) ≤ (k : Int) := by omega
      have hk1 : (k : Int) < (ds.length : Int) := by omega
      clear hi'
      go_wp2_with (first | (go_at_call 66; refine (inRange_any _ _ _ _).mono ?_; rintro e w' ⟨rfl, rfl⟩) | (go_at_call 76; refine (rollsWith_any l2 h2 _ ps _ _ _ _ _ x1 hP (by omega) (by omega)).mono ?_; rintro e x2 ⟨v', rfl, ho, bx2⟩))
      go_ret
      exact ⟨_, rfl, by rw [Hyes.out]; exact ho.base (by omega), Hb.out.trans (bx2.mono (by omega))⟩
    · have hin : inR 0 ((ds.length : Int) - 1) m = false := inR_no (by omega)
      have Hno := Lib.hid (show R = [] by rw [HR.out]; unfold rwL; exact if_neg (by omega))
      go_wp2_with (first | (go_at_call 66; refine (inRange_any _ _ _ _).mono ?_; rintro e w' ⟨rfl, rfl⟩))
      go_ret
      exact ⟨_, rfl, by rw [Hno.out]; exact OwnI.nil _ _ _, Hb.out⟩
set_option maxRecDepth 100000 in
set_option maxHeartbeats 1600000 in
theorem RollsWith_any (lo hi l2 h2 : Nat) (W L : Int) (v u : Value) (ds ps : List (List Int)) (m : Int) (w : World) (h : TS w lo hi 5 v ds) (hhi : hi ≤ w.heap.size) (hp : TS w l2 h2 4 u ps) (hh2 : h2 ≤ w.heap.size) :
    Calls Try.prog 27 #[.agg #[.int .i64 W, .int .i64 L, v], u, .int .i64 m] w fun e w' => ∃ v', e = .returned v' ∧ OwnI w' w.heap.size 3 v' (rwL W L ds ps m) ∧ Below w.heap.size w w' := by
  obtain ⟨A, c, rfl, hc, hm⟩ := h.form
  obtain ⟨B, c2, rfl, hc2, hm2⟩ := hp.form
  have Hs := Lib.hid (show ∃ w1, w1 = (w.alloc (.cells #[.int .i64 W, .int .i64 L, .slice A ds.length c] 30)) ∧ Below w.heap.size w w1 ∧ w1.cell? ⟨w.heap.size, 0, none⟩ = some (.int .i64 W) ∧ w1.cell? ⟨w.heap.size, 1, none⟩ = some (.int .i64 L) ∧ w1.cell? ⟨w.heap.size, 2, none⟩ = some (.slice A ds.length c) ∧ TS w1 lo hi 5 (.slice A ds.length c) ds ∧ TS w1 l2 h2 4 (.slice B ps.length c2) ps ∧ w.heap.size < w1.heap.size from by
    have hb : Below w.heap.size w (w.alloc (.cells #[.int .i64 W, .int .i64 L, .slice A ds.length c] 30)) := (Below.refl _ _).alloc (Nat.le_refl _) _
    exact ⟨_, rfl, hb, by go_simp, by go_simp, by go_simp, h.below hb hhi, hp.below hb hh2, by simp⟩)
  obtain ⟨R, hR⟩ : ∃ R, R = rwL W L ds ps m := ⟨_, rfl⟩
  rw [← hR]
  have HR := Lib.hid hR
  clear hR
  go_enter Try.func27, Try.ntmps27
  go_wp2_with (fail)
  obtain ⟨w1, hw1, hb0, c00, c01, c02, hT0, hT1, hz⟩ := Hs.out
  rw [← hw1]
  clear hw1 Hs
  refine (ValidCuts_any lo hi l2 h2 W L _ _ ds ps w1 hT0 (by omega) hT1 (by omega)).mono ?_
  rintro e x1 ⟨rfl, bx1⟩
  replace c00 := keepB bx1 c00; replace c01 := keepB bx1 c01; replace c02 := keepB bx1 c02
  have hD := hT0.below bx1 (by omega)
  have hP := hT1.below bx1 (by omega)
  have hz1 := bx1.size
  have Hb := Lib.hid (hb0.trans (bx1.mono (Nat.le_of_lt hz)))
  clear hT0 hT1 h hp bx1 hb0
  cases hv : vCuts W L ds ps
  · have Hno := Lib.hid (show R = [] by rw [HR.out]; unfold rwL; rw [hv]; exact if_neg (by simp))
    go_wp2
    go_ret
    exact ⟨_, rfl, by rw [Hno.out]; exact OwnI.nil _ _ _, Hb.out⟩
  · have Hv := Lib.hid hv
    clear hv
    by_cases hi' : 0 ≤ m ∧ m < ds.length
    · obtain ⟨d, rfl⟩ : ∃ d : Nat, m = (d : Int) := ⟨m.toNat, by omega⟩
      have hd : d < ds.length := by omega
      have HI := Lib.hid hi'
      have Hyes := Lib.hid (show R = selL (fun i => mT (gr ps i) (gr ds d)) ps.length by rw [HR.out]; unfold rwL; rw [if_pos ⟨Hv.out, HI.out⟩]; rfl)
      have hlp : ps.length ≤ 60 := (vCuts_iff.1 Hv.out).2.1
      have hd0 : ((d : Int) < 0) ↔ False := ⟨fun h => by omega, False.elim⟩
      have hd1 : (d : Int) < (ds.length : Int) := by omega
      have hd2 : ((ds.length : Int) ≤ (d : Int)) ↔ False := ⟨fun h => by omega, False.elim⟩
      clear hi'
      go_wp2
      clear hd0 hd2
      go_loopw [7, 27] (fun v i wr => ∃ k : Nat, k ≤ ps.length ∧ i = .int .i64 k ∧ OwnI wr x1.heap.size 3 v (selL (fun i => mT (gr ps i) (gr ds d)) k) ∧ Below x1.heap.size x1 wr) (fun _ i _ => ps.length - (intOf i).toNat)
      case atStart => exact ⟨0, by omega, rfl, OwnI.nil _ _ _, Below.refl _ _⟩
      case round =>
        obtain ⟨k, hk, rfl, ho, bw⟩ := hrel
        have hzr := bw.size
        by_cases hlt : k < ps.length
        · replace c00 := keepB bw c00; replace c01 := keepB bw c01; replace c02 := keepB bw c02
          obtain ⟨b, o, rfl, hb2, hb3, e0, e1, e2, e3⟩ := (hP.below bw (by omega)).c4 hlt
          obtain ⟨b2, o2, rfl, hc2, hc3, f0, f1, f2, f3, f4⟩ := (hD.below bw (by omega)).c5 hd
          have hk0 : (0 : Int) ≤ (k : Int) := by omega
          have hk1 : (k : Int) < (ps.length : Int) := by omega
          have hd0 : (0 : Int) ≤ (d : Int) := by omega
          have hsl := selL_len (fun i => mT (gr ps i) (gr ds d)) k
          have HS := Lib.hid (selL_succ (P := fun i => mT (gr ps i) (gr ds d)) (n := k))
          have Ho := Lib.hid ho
          obtain ⟨q, hq⟩ : ∃ q, q = selL (fun i => mT (gr ps i) (gr ds d)) k := ⟨_, rfl⟩
          rw [← hq] at HS Ho hsl
          clear hq ho hP hD
          go_wp2
          obtain ⟨wd, hw1⟩ : ∃ wd, wd = wr.alloc (.cells #[.int .i64 (gi (gr ps k) 0), .int .i64 (gi (gr ps k) 1), .int .i64 (gi (gr ps k) 2), .int .i64 (gi (gr ps k) 3)] 58) := ⟨_, rfl⟩
          have p0 : wd.cell? ⟨wr.heap.size, 0, none⟩ = some (.int .i64 (gi (gr ps k) 0)) := by rw [hw1]; go_simp
          have p1 : wd.cell? ⟨wr.heap.size, 1, none⟩ = some (.int .i64 (gi (gr ps k) 1)) := by rw [hw1]; go_simp
          have p2 : wd.cell? ⟨wr.heap.size, 2, none⟩ = some (.int .i64 (gi (gr ps k) 2)) := by rw [hw1]; go_simp
          have p3 : wd.cell? ⟨wr.heap.size, 3, none⟩ = some (.int .i64 (gi (gr ps k) 3)) := by rw [hw1]; go_simp
          have bp : Below wr.heap.size wr wd := by rw [hw1]; exact (Below.refl _ _).alloc (Nat.le_refl _) _
          have zp : wr.heap.size < wd.heap.size := by rw [hw1]; simp
          rw [← hw1]
          clear hw1
          replace c00 := keepB bp c00; replace c01 := keepB bp c01; replace c02 := keepB bp c02; replace f0 := keepB bp f0; replace f1 := keepB bp f1; replace f2 := keepB bp f2; replace f3 := keepB bp f3; replace f4 := keepB bp f4
          go_region_held3 (fun w' => w'.cell? ⟨wr.heap.size, 0, none⟩ = some (.int .i64 (gi (gr ps k) 0)) ∧ w'.cell? ⟨wr.heap.size, 1, none⟩ = some (.int .i64 (gi (gr ps k) 1)) ∧ w'.cell? ⟨wr.heap.size, 2, none⟩ = some (.int .i64 (gi (gr ps k) 2)) ∧ w'.cell? ⟨wr.heap.size, 3, none⟩ = some (.int .i64 (gi (gr ps k) 3)) ∧ w'.cell? ⟨w.heap.size, 2, none⟩ = some (.slice (some ⟨b2, o2, none⟩) ds.length c) ∧ w'.cell? ⟨b2, o2 + d * 5, none⟩ = some (.int .i64 (gi (gr ds d) 0)) ∧ w'.cell? ⟨b2, o2 + d * 5 + 1, none⟩ = some (.int .i64 (gi (gr ds d) 1)) ∧ w'.cell? ⟨b2, o2 + d * 5 + 2, none⟩ = some (.int .i64 (gi (gr ds d) 2)) ∧ w'.cell? ⟨b2, o2 + d * 5 + 3, none⟩ = some (.int .i64 (gi (gr ds d) 3)) ∧ w'.cell? ⟨b2, o2 + d * 5 + 4, none⟩ = some (.int .i64 (gi (gr ds d) 4))) (first | go_keep | (go_split_ands; refine ⟨?_, ?_, ?_, ?_, ?_, ?_, ?_, ?_, ?_, ?_⟩ <;> first | exact keepB bx5 (by assumption) | exact keepB bx4 (by assumption) | exact keepB bx3 (by assumption) | exact keepB bx2 (by assumption) | exact keepB bx1 (by assumption))) (first | (go_at_call 79; refine (partOf_any _ _ _ _ _ _).mono ?_; rintro e x2 ⟨rfl, bx1⟩) | (go_at_call 78; refine (meet_any _ _ _ _ _ _ _ _ _).mono ?_; rintro e x3 ⟨rfl, bx2⟩))
          have bx3 := of_drew bx1
          have hz2 := bx3.size
          have hz3 := bx2.size
          have hbz : Below wr.heap.size wr x3 := bp.trans ((bx3.trans (bx2.mono hz2)).mono (by omega))
          have hbw := bw.trans (hbz.mono hzr)
          have hox := Ho.out.kept (.of_below hbz (Nat.le_refl _))
          clear e0 e1 e2 e3 f0 f1 f2 f3 f4 p0 p1 p2 p3 bx1 bx2 bx3 bw bp c00 c01 c02 hbz
          cases hm4 : meetB (gi (gr ps k) 0) (gi (gr ps k) 1) (gi (gr ps k) 2) (gi (gr ps k) 3) (gi (gr ds d) 0) (gi (gr ds d) 1) (gi (gr ds d) 2) (gi (gr ds d) 3)
          · have Hd := Lib.hid (show mT (gr ps k) (gr ds d) = false from hm4)
            go_wp2
            go_roundw
            case rel => exact ⟨k + 1, by omega, by go_num, by rw [HS.out, if_neg (by rw [Hd.out]; simp)]; exact hox, hbw⟩
            case measure => simp [intOf]; omega
          · have Hd := Lib.hid (show mT (gr ps k) (gr ds d) = true from hm4)
            go_wp2_with (at_builtin; refine wpList_appendI SlI _ rfl (.tmp 40) (.tmp 42) rfl _ x1.heap.size _ _ rfl rfl hox ⟨by omega, by omega⟩ (by omega) (by omega) ?_; intro v' w3 ho3 hg3)
            go_roundw
            case rel => exact ⟨k + 1, by omega, by go_num, by rw [HS.out, if_pos Hd.out]; exact ho3, hbw.trans hg3.below⟩
            case measure => simp [intOf]; omega
        · have He := Lib.hid (show k = ps.length by omega)
          go_wp2
          go_ret
          exact ⟨_, rfl, by rw [Hyes.out, ← He.out]; exact ho.base (by omega), Hb.out.trans (bw.mono (by omega))⟩
    · have Hno := Lib.hid (show R = [] by rw [HR.out]; unfold rwL; exact if_neg (by omega))
      by_cases h0 : m < 0
      · go_wp2
        go_ret
        exact ⟨_, rfl, by rw [Hno.out]; exact OwnI.nil _ _ _, Hb.out⟩
      · have h1 : (ds.length : Int) ≤ m := by omega
        go_wp2
        go_ret
        exact ⟨_, rfl, by rw [Hno.out]; exact OwnI.nil _ _ _, Hb.out⟩
end Go.Proofs.Ytodbgkflakfjpaa
