/-
  Texts merged into one: what each function does, and plain lemmas. No condition.
-/
import Derived.Test.YtkgepklapglmdaaGreatDoorEvA
import Derived.Laws.StructEq
import Derived.Test.YtkgepklapglmdaaGreatDoorDrwC
import Derived.Test.YtkgepklapglmdaaGreatDoorPIS
import Derived.Test.YtkgepklapglmdaaGreatDoorMillT
import Derived.Test.YtkgepklapglmdaaGreatDoorMyZ
namespace Go.Proofs.YtkgepklapglmdaaGreatDoor
open Go.RowKit
attribute [local go_sem ↓] Go.wp_at_zero Go.wp_at_succ

set_option maxRecDepth 100000 in
set_option maxHeartbeats 2000000 in
theorem equalEvents_same (l1 h1 l2 h2 : Nat) (v u : Value) (xs : List (List Int)) (w : World) (h : TS w l1 h1 7 v xs) (hh : h1 ≤ w.heap.size) (hy : TS w l2 h2 7 u xs) (hh2 : h2 ≤ w.heap.size) :
    Calls Tryz.prog 10 #[v, u] w fun e w' => e = .returned (.bool true) ∧ Below w.heap.size w w' := by
  obtain ⟨A, c, rfl, hc, hm⟩ := h.form
  obtain ⟨B, d, rfl, hd, hm'⟩ := hy.form
  have hl' : ((xs.length : Int) != (xs.length : Int)) = false := bne_f rfl
  go_enter Tryz.func10, Tryz.ntmps10
  go_wp2
  clear hl'
  go_loopw [5] (fun i wr => ∃ k : Nat, k ≤ xs.length ∧ i = .int .i64 k ∧ Below w.heap.size w wr) (fun i _ => xs.length - (intOf i).toNat)
  case atStart => exact ⟨0, by omega, rfl, Below.refl _ _⟩
  case round =>
    obtain ⟨k, hk, rfl, bw⟩ := hrel
    by_cases hlt : k < xs.length
    · obtain ⟨b, o, rfl, _, _, e0, e1, e2, e3, e4, e5, e6⟩ := (h.below bw hh).c7 hlt
      obtain ⟨b2, o2, rfl, _, _, f0, f1, f2, f3, f4, f5, f6⟩ := (hy.below bw hh2).c7 hlt
      obtain ⟨d0, hd0⟩ : ∃ d, d = gi (gr xs k) 0 := ⟨_, rfl⟩
      rw [← hd0] at e0 f0
      have q0 : (d0 == d0) = true := beq_t rfl
      obtain ⟨d1, hd1⟩ : ∃ d, d = gi (gr xs k) 1 := ⟨_, rfl⟩
      rw [← hd1] at e1 f1
      have q1 : (d1 == d1) = true := beq_t rfl
      obtain ⟨d2, hd2⟩ : ∃ d, d = gi (gr xs k) 2 := ⟨_, rfl⟩
      rw [← hd2] at e2 f2
      have q2 : (d2 == d2) = true := beq_t rfl
      obtain ⟨d3, hd3⟩ : ∃ d, d = gi (gr xs k) 3 := ⟨_, rfl⟩
      rw [← hd3] at e3 f3
      have q3 : (d3 == d3) = true := beq_t rfl
      obtain ⟨d4, hd4⟩ : ∃ d, d = gi (gr xs k) 4 := ⟨_, rfl⟩
      rw [← hd4] at e4 f4
      have q4 : (d4 == d4) = true := beq_t rfl
      obtain ⟨d5, hd5⟩ : ∃ d, d = gi (gr xs k) 5 := ⟨_, rfl⟩
      rw [← hd5] at e5 f5
      have q5 : (d5 == d5) = true := beq_t rfl
      obtain ⟨d6, hd6⟩ : ∃ d, d = gi (gr xs k) 6 := ⟨_, rfl⟩
      rw [← hd6] at e6 f6
      have q6 : (d6 == d6) = true := beq_t rfl
      clear h hy hd0 hd1 hd2 hd3 hd4 hd5 hd6
      have hk0 : (0 : Int) ≤ (k : Int) := by omega
      have hk1 : (k : Int) < (xs.length : Int) := by omega
      go_wp2
      go_region_held3 (fun w' => w'.cell? ⟨b, o + k * 7, none⟩ = some (.int .i64 d0) ∧ w'.cell? ⟨b, o + k * 7 + 1, none⟩ = some (.int .i64 d1) ∧ w'.cell? ⟨b, o + k * 7 + 2, none⟩ = some (.int .i64 d2) ∧ w'.cell? ⟨b, o + k * 7 + 3, none⟩ = some (.int .i64 d3) ∧ w'.cell? ⟨b, o + k * 7 + 4, none⟩ = some (.int .i64 d4) ∧ w'.cell? ⟨b, o + k * 7 + 5, none⟩ = some (.int .i64 d5) ∧ w'.cell? ⟨b, o + k * 7 + 6, none⟩ = some (.int .i64 d6) ∧ w'.cell? ⟨b2, o2 + k * 7, none⟩ = some (.int .i64 d0) ∧ w'.cell? ⟨b2, o2 + k * 7 + 1, none⟩ = some (.int .i64 d1) ∧ w'.cell? ⟨b2, o2 + k * 7 + 2, none⟩ = some (.int .i64 d2) ∧ w'.cell? ⟨b2, o2 + k * 7 + 3, none⟩ = some (.int .i64 d3) ∧ w'.cell? ⟨b2, o2 + k * 7 + 4, none⟩ = some (.int .i64 d4) ∧ w'.cell? ⟨b2, o2 + k * 7 + 5, none⟩ = some (.int .i64 d5) ∧ w'.cell? ⟨b2, o2 + k * 7 + 6, none⟩ = some (.int .i64 d6)) (first | go_keep) (fail)
      go_wp2
      go_roundw
      case rel => exact ⟨k + 1, by omega, by go_num, bw.trans ⟨rfl, rfl, rfl, Nat.le_refl _, fun _ _ => rfl⟩⟩
      case measure => simp [intOf]; omega
    · go_wp2
      go_ret
      exact ⟨rfl, bw⟩
end Go.Proofs.YtkgepklapglmdaaGreatDoor

namespace Go.Proofs.YtkgepklapglmdaaGreatDoor
open Go.RowKit
attribute [local go_sem ↓] Go.wp_at_zero Go.wp_at_succ

theorem ApplyEvent_fixP (lo hi : Nat) (v : Value) (es1 es2 : List Ent) (a b z a2 b2 z2 k lb l r f t g : Int) (w : World) (h : ES w lo hi v es1) (hhi : hi ≤ w.heap.size) (hin : I64 a ∧ I64 b ∧ I64 z) (h64 : V64 ⟨k, lb, l, r, f, t, g⟩) (hap : apV ⟨es1, a, b, z⟩ ⟨k, lb, l, r, f, t, g⟩ = some ⟨es2, a2, b2, z2⟩) :
    Calls Tryz.prog 13 #[.agg #[v, .int .i64 a, .int .i64 b, .int .i64 z], .agg #[.int .i64 k, .int .i64 lb, .int .i64 l, .int .i64 r, .int .i64 f, .int .i64 t, .int .i64 g]] w fun e w' => ∃ A c, e = .returned (.tuple #[.agg #[.slice A es2.length c, .int .i64 a2, .int .i64 b2, .int .i64 z2], .bool true]) ∧ OwnE w' w.heap.size w'.heap.size 58 92 38 (.slice A es2.length c) es2 ∧ Below w.heap.size w w' := by
  refine (ApplyEvent_any lo hi v ⟨es1, a, b, z⟩ ⟨k, lb, l, r, f, t, g⟩ w h hhi hin h64).mono ?_
  rintro e w' ⟨u, rfl, he, hb⟩
  rw [hap] at he ⊢
  obtain ⟨A, c, hA, _⟩ := he.form
  obtain rfl : u = .slice A es2.length c := hA
  exact ⟨A, c, rfl, he, hb⟩
theorem fmtB_lenP (rows : List (List Int)) : (fmtB rows).length ≤ 6060 := by
  unfold fmtB
  split
  · rename_i h
    have key : ∀ rows : List (List Int), (fmtJ rows).length ≤ 101 * rows.length := by
      intro rows
      induction rows with
      | nil => simp [fmtJ]
      | cons e t ih =>
        have h1 : fmtJ (e :: t) = fmtE e ++ [10] ++ fmtJ t := by simp [fmtJ]
        have h2 := fmtE_lenJ e
        rw [h1, List.length_append, List.length_append, List.length_singleton, List.length_cons]
        omega
    have := key rows
    omega
  · simp
/-- the events of a plan are read back -/
theorem rec_plan {lb : Int} {P : List (List Int)} (hlb : 0 ≤ lb ∧ lb ≤ 999999) (hP : ∀ p ∈ P, (0 ≤ gi p 0 ∧ gi p 0 ≤ 999999) ∧ (0 ≤ gi p 1 ∧ gi p 1 ≤ 999999) ∧ (0 ≤ gi p 2 ∧ gi p 2 ≤ 999999) ∧ 0 ≤ gi p 3 ∧ gi p 3 ≤ 999999) (h60 : P.length ≤ 60) :
    recB (fmtB (evT (plE lb P))) = evT (plE lb P) := by
  have e : evT (plE lb P) = P.map fun p => [2, lb, gi p 0, gi p 1, gi p 2, gi p 3, 0] := by unfold evT plE; rw [List.map_map]; rfl
  rw [e]
  have hne : ∀ x ∈ P.map fun p => [2, lb, gi p 0, gi p 1, gi p 2, gi p 3, 0], fmtE x ≠ [] := fun x hx => by
    obtain ⟨p, hp, rfl⟩ := List.mem_map.1 hx
    obtain ⟨⟨a1, a2⟩, ⟨b1, b2⟩, ⟨c1, c2⟩, d1, d2⟩ := hP p hp
    have hN : evN [2, lb, gi p 0, gi p 1, gi p 2, gi p 3, 0] = [lb, gi p 0, gi p 1, gi p 2, gi p 3] := rfl
    have hA : allR 0 999999 [lb, gi p 0, gi p 1, gi p 2, gi p 3] = true := by
      refine allR_iff.2 fun i hi => ?_
      have : i = 0 ∨ i = 1 ∨ i = 2 ∨ i = 3 ∨ i = 4 := by simp at hi; omega
      rcases this with rfl | rfl | rfl | rfl | rfl
      · exact hlb
      · exact ⟨a1, a2⟩
      · exact ⟨b1, b2⟩
      · exact ⟨c1, c2⟩
      · exact ⟨d1, d2⟩
    unfold fmtE
    rw [hN, if_pos hA]
    intro h9
    have h8 : wrd 2 = [] := (List.append_eq_nil_iff.1 h9).1
    exact absurd h8 (by decide)
  rcases P with _ | ⟨p, t⟩
  · show recB (fmtB []) = []
    rw [show fmtB [] = [] from rfl]
    unfold recB
    rw [show splitC 10 [] [] = [[]] from rfl, recE_one]
  · have hb : fmtB ((p :: t).map fun p => [2, lb, gi p 0, gi p 1, gi p 2, gi p 3, 0]) ≠ [] := by
      rw [fmtB_yes (by rw [List.length_map]; exact h60) fun k hk => hne _ (gr_mem hk)]
      rw [List.map_cons]
      unfold fmtJ
      rw [List.flatMap_cons]
      simp
    rw [rec_book hb, List.map_map]
    exact List.map_congr_left fun p _ => rfl
theorem areaL_rngP {W L : Int} {ds Q : List (List Int)} (h : vCuts W L ds Q = true) : ∀ k, k ≤ Q.length → 0 ≤ areaL Q k ∧ areaL Q k ≤ 24000 * k
  | 0, _ => ⟨Int.le_refl _, Int.le_refl _⟩
  | k + 1, hk => by
    have ih := areaL_rngP h k (by omega)
    have hv := vCuts_iff.1 h
    have hr := vReel_rng hv.1
    have hc := hv.2.2 k (by omega)
    unfold cutOk at hc
    rw [Bool.and_eq_true] at hc
    have ha := areaT_rng hc.1 hr.2.1 hr.2.2.2
    show 0 ≤ areaL Q k + areaT (gr Q k) ∧ areaL Q k + areaT (gr Q k) ≤ _
    omega
/-- a plan's reel is shipped with all its cuts -/
theorem plan_ship {m : Mil} {lb : Int} {ws xs : List Int} {i : Nat} {C : List Int} {Q : List (List Int)} (D : PlD m lb ws xs i C Q) :
    ∃ m' : Mil, apE (mlK m i Q Q.length) ⟨3, lb, 0, 0, 0, 0, 9⟩ = some m' ∧ m'.ok = true ∧ m'.a = m.a ∧ m'.b = m.b + areaL Q Q.length := by
  have hil : i < (mlK m i Q Q.length).es.length := by rw [mlK_len]; exact D.il
  have hs := ship_ok (g := 9) (mlK_ok D Q.length) (mlK_ei D Q.length) hil
  have hv : vReel (ge m.es i).W (ge m.es i).L (ge m.es i).ds = true := (vCuts_iff.1 D.cuts).1
  have hg : goodA (ge (mlK m i Q Q.length).es i) 9 = areaL Q Q.length := by
    rw [mlK_at D, List.take_length]
    exact good_all (e := setPs (ge m.es i) Q) hv
  refine ⟨_, hs, apE_ok hs, rfl, ?_⟩
  show m.b + goodA _ 9 = _
  rw [hg]
set_option maxRecDepth 100000 in
set_option maxHeartbeats 16000000 in
theorem FnPlanCutsBook_walk (B : Nat) (v : Value) (bs : List Int) (w : World) (hp : Pow B w) (hsh : w.ShapedOpen Tryz.prog) (h : Bytes w 0 w.heap.size v bs) :
    Calls Tryz.prog 3 #[v] w fun e w' => e = .returned (.bool true) ∧ Below w.heap.size w w' := by
  have hv : ∃ A c, v = .slice A bs.length c ∧ bs.length ≤ c ∧ c ≤ 2 ^ 63 - 1 := by obtain ⟨A, c, e, h1, h2, _⟩ := h; exact ⟨A, c, e, h1, by unfold maxLen at h2; omega⟩
  obtain ⟨A0, c0, rfl, hc0, hm0⟩ := hv
  have HP := Lib.hid hp
  have HSH := Lib.hid hsh
  clear hp hsh
  by_cases hl : 1048576 < bs.length
  · have hl' : (1048576 : Int) < (bs.length : Int) := by omega
    go_enter Tryz.func3, Tryz.ntmps3
    go_wp2
    go_ret
    exact ⟨rfl, Below.refl _ _⟩
  have hl' : ¬ (1048576 : Int) < (bs.length : Int) := by omega
  go_enter Tryz.func3, Tryz.ntmps3
  go_wp2_with fail
  refine (DrawPlanCuts_any _ bs w h).mono ?_
  rintro e w1 ⟨A, n, c, es, a, b, z, lb, u2, u3, ws, xs, rfl, hn, hes, hbd, hlb, hw, hx, b1⟩
  subst hn
  obtain ⟨_, _, heq, hc, hm⟩ := hes.form
  injection heq with q1 q2 q3
  subst q1 q3
  obtain ⟨A2, c2, rfl, hc2, hm2⟩ := hw.form
  obtain ⟨A3, c3, rfl, hc3, hm3⟩ := hx.form
  have HIN := Lib.hid (show I64 a ∧ I64 b ∧ I64 z by unfold I64; omega)
  have HB1 := Lib.hid b1
  have HBW := Lib.hid (show ∀ w9, Below w1.heap.size w1 w9 → Below w.heap.size w w9 from fun w9 h9 => b1.trans (h9.mono b1.size))
  have HES := Lib.hid (show ∀ w9, Below w1.heap.size w1 w9 → ES w9 w.heap.size w1.heap.size (.slice A es.length c) es from fun w9 hb => hes.below hb (Nat.le_refl _))
  have HWS := Lib.hid (show ∀ w9, Below w1.heap.size w1 w9 → Ints w9 w.heap.size w1.heap.size (.slice A2 ws.length c2) ws from fun w9 hb => hw.below hb (Nat.le_refl _))
  have HXS := Lib.hid (show ∀ w9, Below w1.heap.size w1 w9 → Ints w9 w.heap.size w1.heap.size (.slice A3 xs.length c3) xs from fun w9 hb => hx.below hb (Nat.le_refl _))
  obtain ⟨R, hR⟩ : ∃ R, R = plL ⟨es, a, b, z⟩ lb ws xs := ⟨_, rfl⟩
  obtain ⟨ok, hok⟩ : ∃ ok, ok = plB ⟨es, a, b, z⟩ lb ws xs := ⟨_, rfl⟩
  have HR := Lib.hid hR
  have HOK := Lib.hid hok
  have hR60 : R.length ≤ 60 := by rw [hR]; exact plL_len _ _ _ _
  have HLB := Lib.hid hlb
  have hs1 : w.heap.size ≤ w1.heap.size := b1.size
  clear h hl hl' hes hbd hlb hw hx b1 hR hok
  go_wp2_with fail
  obtain ⟨w2, hw1⟩ : ∃ w2, w2 = w1.alloc (.cells #[.slice A es.length c, .int .i64 a, .int .i64 b, .int .i64 z] 25) := ⟨_, rfl⟩
  have m0 : w2.cell? ⟨w1.heap.size, 0, none⟩ = some (.slice A es.length c) := by rw [hw1]; go_simp
  have m1 : w2.cell? ⟨w1.heap.size, 1, none⟩ = some (.int .i64 a) := by rw [hw1]; go_simp
  have m2 : w2.cell? ⟨w1.heap.size, 2, none⟩ = some (.int .i64 b) := by rw [hw1]; go_simp
  have m3 : w2.cell? ⟨w1.heap.size, 3, none⟩ = some (.int .i64 z) := by rw [hw1]; go_simp
  have bm : Below w1.heap.size w1 w2 := by rw [hw1]; exact (Below.refl _ _).alloc (Nat.le_refl _) _
  have zm : w1.heap.size < w2.heap.size := by rw [hw1]; simp
  have Hm := Lib.hid (show w2.heap[w1.heap.size]? = some (.cells #[.slice A es.length c, .int .i64 a, .int .i64 b, .int .i64 z] 25) by rw [hw1]; exact heap_alloc_new w1 _)
  rw [← hw1]
  clear hw1
  have By2 := Lib.hid bm
  have hs2 : w1.heap.size < w2.heap.size := zm
  clear bm zm Hm
  refine (PlanCutsI_fix _ _ _ _ _ _ _ _ _ ⟨es, a, b, z⟩ lb ws xs R ok w2 (HES.out w2 By2.out) (by omega) HIN.out HLB.out (HWS.out w2 By2.out) (by omega) (HXS.out w2 By2.out) (by omega) HR.out HOK.out).mono ?_
  rintro e w3 ⟨AO, cO, rfl, o3, b3⟩
  have HT3 := Lib.hid o3.ts
  have By3 := Lib.hid (By2.out.trans (b3.mono (by omega)))
  have hs3 : w2.heap.size ≤ w3.heap.size := b3.size
  replace m0 := keepB b3 m0; replace m1 := keepB b3 m1; replace m2 := keepB b3 m2; replace m3 := keepB b3 m3
  clear b3 o3 By2
  go_wp2_with fail
  refine (PlanCutsS_fix _ _ _ _ _ _ _ _ _ ⟨es, a, b, z⟩ lb ws xs R ok w3 (HES.out w3 By3.out) (by omega) HIN.out HLB.out (HWS.out w3 By3.out) (by omega) (HXS.out w3 By3.out) (by omega) HR.out HOK.out).mono ?_
  rintro e w4 ⟨AS, cS, rfl, o4, b4⟩
  have HT4 := Lib.hid (HT3.out.below b4 (Nat.le_refl _))
  have HU4 := Lib.hid o4.ts
  have By4 := Lib.hid (By3.out.trans (b4.mono (by omega)))
  have hs4 : w3.heap.size ≤ w4.heap.size := b4.size
  replace m0 := keepB b4 m0; replace m1 := keepB b4 m1; replace m2 := keepB b4 m2; replace m3 := keepB b4 m3
  clear b4 o4 By3 HT3
  go_wp2_with fail
  refine (equalEvents_same _ _ _ _ _ _ (evT R) w4 HT4.out hs4 HU4.out (Nat.le_refl _)).mono ?_
  rintro e w5 ⟨rfl, b5⟩
  have HT5 := Lib.hid (HT4.out.below b5 hs4)
  have HU5 := Lib.hid (HU4.out.below b5 (Nat.le_refl _))
  have By5 := Lib.hid (By4.out.trans (b5.mono (by omega)))
  have hs5 : w4.heap.size ≤ w5.heap.size := b5.size
  replace m0 := keepB b5 m0; replace m1 := keepB b5 m1; replace m2 := keepB b5 m2; replace m3 := keepB b5 m3
  clear b5 By4 HT4 HU4
  cases ok
  · go_wp2_with fail
    refine (equalEvents_same _ _ _ _ _ _ (evT R) w5 HT5.out (by omega) HU5.out (by omega)).mono ?_
    rintro e w6 ⟨rfl, b6⟩
    have By6 := Lib.hid (By5.out.trans (b6.mono (by omega)))
    clear b6
    go_wp2
    go_ret
    exact ⟨rfl, HBW.out _ By6.out⟩
  obtain ⟨i0, C, Q, hD⟩ := plan_data HOK.out.symm
  have HD := Lib.hid hD
  have hRQ : R = plE lb Q := by rw [HR.out]; exact hD.ev
  have hn : R.length = Q.length := by rw [hRQ, plE_len]
  have HEV := Lib.hid (show ∀ k, k < Q.length → gr (evT R) k = [2, lb, gi (gr Q k) 0, gi (gr Q k) 1, gi (gr Q k) 2, gi (gr Q k) 3, 0] from fun k hk => by rw [hRQ]; exact evT_at lb hk)
  have HNQ := Lib.hid hn
  have HRQ := Lib.hid hRQ
  have hQ60 : Q.length ≤ 60 := by omega
  have HEL := Lib.hid (evT_len R)
  clear hD hRQ HU5
  obtain ⟨n, hnn⟩ : ∃ n, n = R.length := ⟨_, rfl⟩
  rw [← hnn] at hn hR60 HEL ⊢
  have HTN := Lib.hid (show TS w5 w2.heap.size w3.heap.size 7 (.slice AO n cO) (evT R) by have h9 := HT5.out; rw [← hnn] at h9; exact h9)
  have hnq1 : n ≤ Q.length := by omega
  have hnq2 : Q.length ≤ n := by omega
  clear hnn hn HT5
  have HBK := Lib.hid (show recB (fmtB (evT R)) = evT R by
    rw [HRQ.out]
    have hv := vCuts_iff.1 HD.out.cuts
    have hr := vReel_rng hv.1
    have he := vEnt_iff.1 (Mil.ents HD.out.ok i0 HD.out.il)
    have hlb2 : (ge es i0).lb = lb := HD.out.el
    refine rec_plan (by have h1 : 1 ≤ (ge es i0).lb := he.1; have h2 : (ge es i0).lb ≤ 9999 := he.2.1; omega) (fun p hp => ?_) hQ60
    obtain ⟨k, hk, rfl⟩ := List.mem_iff_getElem.1 hp
    have hc := hv.2.2 k hk
    unfold cutOk at hc
    rw [Bool.and_eq_true, gr_eq hk] at hc
    have hp9 := pv_rng hc.1
    have hr2 : (ge es i0).W ≤ 60 := hr.2.1
    have hr4 : (ge es i0).L ≤ 400 := hr.2.2.2
    obtain ⟨z1, z2, z3, z4, z5, z6⟩ := hp9
    exact ⟨⟨by omega, by omega⟩, ⟨by omega, by omega⟩, ⟨by omega, by omega⟩, by omega, by omega⟩)
  have HTL := Lib.hid (show (fmtB (evT R)).length ≤ 6060 from fmtB_lenP _)
  obtain ⟨TT, hTT⟩ : ∃ T, T = fmtB (evT R) := ⟨_, rfl⟩
  have HTT := Lib.hid hTT
  rw [← hTT] at HBK HTL
  obtain ⟨zt, hzt⟩ : ∃ z, z = TB TT := ⟨_, rfl⟩
  have HZ := Lib.hid hzt
  have hn61 : ¬ (60 : Int) < (n : Int) := by omega
  have hn62 : ¬ (n : Int) > 60 := by omega
  clear hTT hzt
  go_wp2_with fail
  refine (FormatBookI_any B _ _ _ (evT R) w5 (HP.out.below (HBW.out _ By5.out)) HTN.out (by omega)).mono ?_
  rw [← HTT.out, ← HZ.out]
  rintro e w6 ⟨rfl, b6⟩
  have HT6 := Lib.hid (HTN.out.below b6 (by omega))
  have By6 := Lib.hid (By5.out.trans (b6.mono (by omega)))
  have hs6 : w5.heap.size ≤ w6.heap.size := b6.size
  replace m0 := keepB b6 m0; replace m1 := keepB b6 m1; replace m2 := keepB b6 m2; replace m3 := keepB b6 m3
  clear b6 By5 HTN
  go_wp2_with fail
  refine (RecoverBookI_any TT zt HZ.out w6 (by have := HTL.out; omega) (shaped_below HSH.out (HBW.out _ By6.out))).mono ?_
  rw [HBK.out]
  rintro e w7 ⟨v7, rfl, o7, b7⟩
  obtain ⟨A7, c7, rfl, hc7, hm7⟩ := o7.form
  have HO7 := Lib.hid o7.ts
  have HT7 := Lib.hid (HT6.out.below b7 (by omega))
  have By7 := Lib.hid (By6.out.trans (b7.mono (by omega)))
  have hs7 : w6.heap.size ≤ w7.heap.size := b7.size
  replace m0 := keepB b7 m0; replace m1 := keepB b7 m1; replace m2 := keepB b7 m2; replace m3 := keepB b7 m3
  clear b7 o7 By6 HT6
  go_wp2_with fail
  refine (equalEvents_same _ _ _ _ _ _ (evT R) w7 HO7.out (Nat.le_refl _) HT7.out (by omega)).mono ?_
  rintro e w8 ⟨rfl, b8⟩
  have HT8 := Lib.hid (HT7.out.below b8 (by omega))
  have By8 := Lib.hid (By7.out.trans (b8.mono (by omega)))
  have hs8 : w7.heap.size ≤ w8.heap.size := b8.size
  replace m0 := keepB b8 m0; replace m1 := keepB b8 m1; replace m2 := keepB b8 m2; replace m3 := keepB b8 m3
  clear b8 By7 HT7 HO7
  have hbd : Below w8.heap.size w8 (w8.alloc (.cells #[.slice A es.length c, .int .i64 a, .int .i64 b, .int .i64 z] 25)) := (Below.refl _ _).alloc (Nat.le_refl _) _
  have x_m0 := keepB hbd m0
  have x_m1 := keepB hbd m1
  have x_m2 := keepB hbd m2
  have x_m3 := keepB hbd m3
  go_wp2
  clear hbd x_m0 x_m1 x_m2 x_m3
  obtain ⟨w9, hw1⟩ : ∃ w9, w9 = w8.alloc (.cells #[.slice A es.length c, .int .i64 a, .int .i64 b, .int .i64 z] 25) := ⟨_, rfl⟩
  have t0 : w9.cell? ⟨w8.heap.size, 0, none⟩ = some (.slice A es.length c) := by rw [hw1]; go_simp
  have t1 : w9.cell? ⟨w8.heap.size, 1, none⟩ = some (.int .i64 a) := by rw [hw1]; go_simp
  have t2 : w9.cell? ⟨w8.heap.size, 2, none⟩ = some (.int .i64 b) := by rw [hw1]; go_simp
  have t3 : w9.cell? ⟨w8.heap.size, 3, none⟩ = some (.int .i64 z) := by rw [hw1]; go_simp
  have bt : Below w8.heap.size w8 w9 := by rw [hw1]; exact (Below.refl _ _).alloc (Nat.le_refl _) _
  have zt : w8.heap.size < w9.heap.size := by rw [hw1]; simp
  have Ht := Lib.hid (show w9.heap[w8.heap.size]? = some (.cells #[.slice A es.length c, .int .i64 a, .int .i64 b, .int .i64 z] 25) by rw [hw1]; exact heap_alloc_new w8 _)
  rw [← hw1]
  clear hw1
  have HM9 := Lib.hid (show MB w9 w8.heap.size (.slice A es.length c) a b z from Ht.out)
  obtain ⟨T, hT⟩ : ∃ T, T = w8.heap.size := ⟨_, rfl⟩
  have hTs : T < w9.heap.size := by omega
  have hT5 : T = w8.heap.size := hT
  have HTW := Lib.hid (HT8.out.below bt (by omega))
  have By9 := Lib.hid (By8.out.trans (bt.mono (by omega)))
  have HES9 := Lib.hid (HES.out w9 By9.out)
  have HE0 := Lib.hid (show es = (mlK ⟨es, a, b, z⟩ i0 Q 0).es by rw [mlK_zero HD.out])
  have hT1 : w1.heap.size < T := by omega
  have hT3 : w3.heap.size ≤ T := by omega
  replace m0 := keepB bt m0; replace m1 := keepB bt m1; replace m2 := keepB bt m2; replace m3 := keepB bt m3
  rw [← hT] at HM9 ⊢
  clear bt Ht t0 t1 t2 t3 zt hT hT5 By8 HT8
  go_loopw [12] (fun i wr => ∃ (k : Nat) (E : List Ent) (Ak : Option Addr) (ck lo' hi' : Nat), k ≤ n ∧ i = .int .i64 (k : Int) ∧ Hid (E = (mlK ⟨es, a, b, z⟩ i0 Q k).es) ∧ Hid (MB wr T (.slice Ak E.length ck) a b z) ∧ Hid (ES wr lo' hi' (.slice Ak E.length ck) E) ∧ (hi' ≤ wr.heap.size ∧ (T < lo' ∨ hi' ≤ T)) ∧ Hid (Below T w9 wr) ∧ T < wr.heap.size) (fun i _ => n - (intOf i).toNat)
  case atStart => exact ⟨0, es, A, c, w.heap.size, w1.heap.size, Nat.zero_le _, rfl, HE0.out, HM9.out, HES9.out, ⟨by omega, .inr (by omega)⟩, Below.refl _ _, hTs⟩
  case round =>
    obtain ⟨k, E, Ak, ck, lo', hi', hk, rfl, HE, HM, HEk, ⟨hhk, hTk⟩, HB, hTr⟩ := hrel
    obtain ⟨wo, rfl⟩ : ∃ wo : World, wo = wr := ⟨_, rfl⟩
    clear HE0 HM9 HES9
    have HTR := Lib.hid (HTW.out.below HB.out hT3)
    have hAk := HEk.out.form
    obtain ⟨⟨t0, t1, t2, t3⟩, ⟨ft0, ft1, ft2, ft3⟩⟩ := HM.out.cells
    have By := Lib.hid (By9.out.trans (HB.out.mono (by omega)))
    have bbo := HB.out
    replace m0 := keepC bbo (by first | (simp; done) | (simp; omega)) m0; replace m1 := keepC bbo (by first | (simp; done) | (simp; omega)) m1; replace m2 := keepC bbo (by first | (simp; done) | (simp; omega)) m2; replace m3 := keepC bbo (by first | (simp; done) | (simp; omega)) m3
    clear bbo
    by_cases hlt : k < n
    · have k0 : (0 : Int) ≤ (k : Int) := by omega
      have k1 : (k : Int) < (n : Int) := by omega
      obtain ⟨b7, o7, hA7, hb71, hb72, p0, p1, p2, p3, p4, p5, p6⟩ := HTR.out.c7 (i := k) (by have := HEL.out; omega)
      subst hA7
      have hkQ : k < Q.length := by omega
      rw [HEV.out k hkQ] at p0 p1 p2 p3 p4 p5 p6
      have h64 : ∀ j, j < 4 → I64 (gi (gr Q k) j) := fun j hj => by
        have h7 := HTR.out
        obtain ⟨_, _, _, _, _, _, h7⟩ := h7
        have h8 := (h7 _ (gr_mem (show k < (evT R).length by have := HEL.out; omega))).2
        rw [HEV.out k hkQ] at h8
        have : j = 0 ∨ j = 1 ∨ j = 2 ∨ j = 3 := by omega
        rcases this with rfl | rfl | rfl | rfl <;> exact h8 _ (by simp)
      have HST := Lib.hid (mlK_step HD.out hkQ)
      obtain ⟨y0, hy0⟩ : ∃ y, y = gi (gr Q k) 0 := ⟨_, rfl⟩
      obtain ⟨y1, hy1⟩ : ∃ y, y = gi (gr Q k) 1 := ⟨_, rfl⟩
      obtain ⟨y2, hy2⟩ : ∃ y, y = gi (gr Q k) 2 := ⟨_, rfl⟩
      obtain ⟨y3, hy3⟩ : ∃ y, y = gi (gr Q k) 3 := ⟨_, rfl⟩
      have H64 := Lib.hid (show V64 ⟨2, lb, y0, y1, y2, y3, 0⟩ by
        rw [hy0, hy1, hy2, hy3]
        exact ⟨by show I64 2; unfold I64; omega, HLB.out, h64 0 (by omega), h64 1 (by omega), h64 2 (by omega), h64 3 (by omega), by show I64 0; unfold I64; omega⟩)
      replace p0 : wo.cell? ⟨b7, o7 + k * 7, none⟩ = some (.int .i64 2) := p0
      replace p1 : wo.cell? ⟨b7, o7 + k * 7 + 1, none⟩ = some (.int .i64 lb) := p1
      replace p2 : wo.cell? ⟨b7, o7 + k * 7 + 2, none⟩ = some (.int .i64 y0) := by rw [hy0]; exact p2
      replace p3 : wo.cell? ⟨b7, o7 + k * 7 + 3, none⟩ = some (.int .i64 y1) := by rw [hy1]; exact p3
      replace p4 : wo.cell? ⟨b7, o7 + k * 7 + 4, none⟩ = some (.int .i64 y2) := by rw [hy2]; exact p4
      replace p5 : wo.cell? ⟨b7, o7 + k * 7 + 5, none⟩ = some (.int .i64 y3) := by rw [hy3]; exact p5
      replace p6 : wo.cell? ⟨b7, o7 + k * 7 + 6, none⟩ = some (.int .i64 0) := p6
      rw [← hy0, ← hy1, ← hy2, ← hy3] at HST
      obtain ⟨E1, hE1⟩ : ∃ E, E = (mlK ⟨es, a, b, z⟩ i0 Q (k + 1)).es := ⟨_, rfl⟩
      have HE1 := Lib.hid hE1
      have HAP := Lib.hid (show apV ⟨E, a, b, z⟩ ⟨2, lb, y0, y1, y2, y3, 0⟩ = some ⟨E1, a, b, z⟩ by
        have h5 : (⟨E, a, b, z⟩ : Mil) = mlK ⟨es, a, b, z⟩ i0 Q k := by rw [HE.out]; rfl
        have h6 : (⟨E1, a, b, z⟩ : Mil) = mlK ⟨es, a, b, z⟩ i0 Q (k + 1) := by rw [hE1]; rfl
        rw [h5, h6]
        unfold apV
        rw [if_pos (mlK_ok HD.out k)]
        exact HST.out)
      clear hy0 hy1 hy2 hy3 h64 HST hE1
      have hb7T : b7 < T := by omega
      have hneb : ¬ T = b7 := by omega
      have hneb' : ¬ b7 = T := by omega
      have gk : IntKind.i64.wrap ((k : Int) + 1) = ((k + 1 : Nat) : Int) := IntWalk.i64_in _ (by omega)
      clear hAk m0 m1 m2 m3
      go_wp2
      refine wp_region_held_drew (S := fun w' => w'.cell? ⟨b7, o7 + k * 7, none⟩ = some (.int .i64 2) ∧ w'.cell? ⟨b7, o7 + k * 7 + 1, none⟩ = some (.int .i64 lb) ∧ w'.cell? ⟨b7, o7 + k * 7 + 2, none⟩ = some (.int .i64 y0) ∧ w'.cell? ⟨b7, o7 + k * 7 + 3, none⟩ = some (.int .i64 y1) ∧ w'.cell? ⟨b7, o7 + k * 7 + 4, none⟩ = some (.int .i64 y2) ∧ w'.cell? ⟨b7, o7 + k * 7 + 5, none⟩ = some (.int .i64 y3) ∧ w'.cell? ⟨b7, o7 + k * 7 + 6, none⟩ = some (.int .i64 0)) (by kernel_rfl) ?_ (fun hHeld => ?_)
      · (first | (try dsimp only); go_keep | (go_split_ands; refine ⟨?_, ?_, ?_, ?_, ?_, ?_, ?_⟩ <;> first | exact keepB bx1 (by assumption) | assumption))
      refine tkW 1 88 rfl rfl (by kernel_rfl) hHeld (by intro w hSw; (try dsimp only at hSw); go_simp; try with_reducible rfl) ?_ (fun _ _ _ h => h)
      simp only [Act.put, lyA, lyB, lyC]
      refine tkW 2 89 rfl rfl (by kernel_rfl) hHeld (by intro w hSw; (try dsimp only at hSw); go_simp; try with_reducible rfl) ?_ (fun _ _ _ h => h)
      simp only [Act.put, lyA, lyB, lyC]
      refine tkW 3 90 rfl rfl (by kernel_rfl) hHeld (by intro w hSw; (try dsimp only at hSw); go_simp; try with_reducible rfl) ?_ (fun _ _ _ h => h)
      simp only [Act.put, lyA, lyB, lyC]
      refine tkW 4 91 rfl rfl (by kernel_rfl) hHeld (by intro w hSw; (try dsimp only at hSw); go_simp; try with_reducible rfl) ?_ (fun _ _ _ h => h)
      simp only [Act.put, lyA, lyB, lyC]
      refine wpAnyH_ready (rs := [0]) (by kernel_rfl) (by simp) ?_
      refine AllReadyH.cons (o := ⟨some 87, _, _, _, _, _⟩) rfl (fun K hK => ?_) AllReadyH.nil
      go_simp
      refine hK.out _ _ ?_ (fun hHeld2 => ?_)
      · (first | (try dsimp only); go_keep | (go_split_ands; refine ⟨?_, ?_, ?_, ?_, ?_, ?_, ?_⟩ <;> first | exact keepB bx1 (by assumption) | assumption))
      clear hK K hHeld
      have hHeld := hHeld2
      clear hHeld2
      try simp only [Act.put, lyA, lyB, lyC]
      refine wpAnyH_ready (rs := [5]) (by kernel_rfl) (by simp) ?_
      refine AllReadyH.cons (o := ⟨some 92, _, _, _, _, _⟩) rfl (fun K hK => ?_) AllReadyH.nil
      go_simp
      go_at_call 13
      obtain ⟨wq, hwq⟩ : ∃ wq, wq = wo.drew := ⟨_, rfl⟩
      have bq : Below wo.heap.size wo wq := by rw [hwq]; exact (Qt.one _ 1).below _
      have hsq := bq.size
      rw [← hwq]
      clear hwq
      replace t0 := keepB bq t0; replace t1 := keepB bq t1; replace t2 := keepB bq t2; replace t3 := keepB bq t3; replace p0 := keepB bq p0; replace p1 := keepB bq p1; replace p2 := keepB bq p2; replace p3 := keepB bq p3; replace p4 := keepB bq p4; replace p5 := keepB bq p5; replace p6 := keepB bq p6
      refine (ApplyEvent_fixP lo' hi' _ E E1 a b z a b z 2 lb y0 y1 y2 y3 0 wq (HEk.out.below bq hhk) (by omega) HIN.out H64.out HAP.out).mono ?_
      rintro e x2 ⟨A5, c5, rfl, o3, bx_⟩
      replace t0 := keepB bx_ t0; replace t1 := keepB bx_ t1; replace t2 := keepB bx_ t2; replace t3 := keepB bx_ t3; replace p0 := keepB bx_ p0; replace p1 := keepB bx_ p1; replace p2 := keepB bx_ p2; replace p3 := keepB bx_ p3; replace p4 := keepB bx_ p4; replace p5 := keepB bx_ p5; replace p6 := keepB bx_ p6
      have hb_ := bq.trans (bx_.mono bq.size)
      have hlo3 : wo.heap.size ≤ wq.heap.size := hsq
      have hxs : wq.heap.size ≤ x2.heap.size := bx_.size
      have HO3 := Lib.hid o3
      clear bx_ bq o3
      clear ft0 ft1 ft2 ft3
      have HM2 := Lib.hid (HM.out.below hb_ hTr)
      obtain ⟨_, ⟨ft0, ft1, ft2, ft3⟩⟩ := HM2.out.cells
      go_wp2_with fail
      refine hK.out _ _ ?_ (fun hHeld2 => ?_)
      · (first | (try dsimp only); go_keep | (go_split_ands; refine ⟨?_, ?_, ?_, ?_, ?_, ?_, ?_⟩ <;> first | exact keepB bx1 (by assumption) | assumption))
      clear hK K hHeld
      have hHeld := hHeld2
      clear hHeld2
      try simp only [Act.put, lyA, lyB, lyC]
      refine tkW 6 86 rfl rfl (by kernel_rfl) hHeld (by intro w hSw; (try dsimp only at hSw); go_simp; try with_reducible rfl) ?_ (fun _ _ _ h => h)
      simp only [Act.put, lyA, lyB, lyC]
      refine tkW 7 93 rfl rfl (by kernel_rfl) hHeld (by intro w hSw; (try dsimp only at hSw); go_simp; try with_reducible rfl) ?_ (fun _ _ _ h => h)
      simp only [Act.put, lyA, lyB, lyC]
      refine tkW 8 94 rfl rfl (by kernel_rfl) hHeld (by intro w hSw; (try dsimp only at hSw); go_simp; try with_reducible rfl) ?_ (fun _ _ _ h => h)
      simp only [Act.put, lyA, lyB, lyC]
      refine wpAnyH_ready (rs := [9]) (by kernel_rfl) (by simp) ?_
      refine AllReadyH.cons (o := ⟨none, _, _, _, _, _⟩) rfl (fun K hK => ?_) AllReadyH.nil
      go_simp
      refine hK.out _ _ ?_ (fun hHeld2 => ?_)
      · (first | (try dsimp only); go_keep | (go_split_ands; refine ⟨?_, ?_, ?_, ?_, ?_, ?_, ?_⟩ <;> first | exact keepB bx1 (by assumption) | assumption))
      clear hK K hHeld
      have hHeld := hHeld2
      clear hHeld2
      try simp only [Act.put, lyA, lyB, lyC]
      refine wpAnyH_done (by kernel_rfl) ?_ _
      obtain ⟨wz, hwz⟩ : ∃ wz, wz = (((x2.setCell ⟨T, 0, none⟩ (.slice A5 E1.length c5)).setCell ⟨T, 1, none⟩ (.int .i64 a)).setCell ⟨T, 2, none⟩ (.int .i64 b)).setCell ⟨T, 3, none⟩ (.int .i64 z) := ⟨_, rfl⟩
      have HMZ := Lib.hid (show MB wz T (.slice A5 E1.length c5) a b z by rw [hwz]; exact (((HM2.out.set0 _).set1 _).set2 _).set3 _)
      have hb6 := HB.out.trans (hb_.mono (by omega))
      have HBZ := Lib.hid (show Below T w9 wz by rw [hwz]; exact (((hb6.setCell (p := ⟨_, _, _⟩) (Nat.le_refl _) _).setCell (p := ⟨_, _, _⟩) (Nat.le_refl _) _).setCell (p := ⟨_, _, _⟩) (Nat.le_refl _) _).setCell (p := ⟨_, _, _⟩) (Nat.le_refl _) _)
      have hsz : wz.heap.size = x2.heap.size := by rw [hwz]; simp [World.setCell]
      have HOZ := Lib.hid (show ES wz wq.heap.size x2.heap.size (.slice A5 E1.length c5) E1 from (HO3.out.kept (w' := wz) fun q hq _ => by rw [hwz]; simp only [World.setCell, Array.getElem?_modify, if_neg (show ¬ T = q by omega)]).es)
      have HWZ := Lib.hid hwz
      have hz1 : x2.heap.size ≤ wz.heap.size := by omega
      have hz2 : T < wz.heap.size := by omega
      have hz3 : T < wq.heap.size := by omega
      clear hb6 hsz hwz p0 p1 p2 p3 p4 p5 p6 HTR HM2 HM HEk HB HE hb_ t0 t1 t2 t3 ft0 ft1 ft2 ft3
      go_wp2
      rw [← HWZ.out]
      go_roundw
      case rel => exact ⟨k + 1, E1, A5, c5, wq.heap.size, x2.heap.size, hlt, by go_num, HE1.out, HMZ.out, HOZ.out, ⟨hz1, .inl hz3⟩, HBZ.out, hz2⟩
      case measure => simp [intOf]; omega
    have hnk : ¬ (k : Int) < (n : Int) := by omega
    obtain rfl : k = n := by omega
    have hkq : k = Q.length := by omega
    obtain ⟨M2, hap2, hok2, ha2, hb2⟩ := plan_ship HD.out
    obtain ⟨E2, hE2⟩ : ∃ E, E = M2.es := ⟨_, rfl⟩
    obtain ⟨b2, hbb2⟩ : ∃ y, y = M2.b := ⟨_, rfl⟩
    obtain ⟨z2, hzz2⟩ : ∃ y, y = M2.z := ⟨_, rfl⟩
    have hM2 : M2 = ⟨E2, a, b2, z2⟩ := by
      have h9 : M2.a = a := ha2
      rw [hE2, hbb2, hzz2]
      cases M2
      simp only at h9
      rw [h9]
    have HAP2 := Lib.hid (show apV ⟨E, a, b, z⟩ ⟨3, lb, 0, 0, 0, 0, 9⟩ = some ⟨E2, a, b2, z2⟩ by
      have h5 : (⟨E, a, b, z⟩ : Mil) = mlK ⟨es, a, b, z⟩ i0 Q k := by rw [HE.out]; rfl
      rw [h5, hkq]
      unfold apV
      rw [if_pos (mlK_ok HD.out _), hap2, hM2])
    have HV2 := Lib.hid (show vMill E2 a b2 z2 = true by rw [hM2] at hok2; exact hok2)
    have HBA := Lib.hid (show b2 = b + areaL Q Q.length by rw [hbb2]; exact hb2)
    have hv2 := vMill_iff.1 HV2.out
    have HIN2 := Lib.hid (show I64 a ∧ I64 b2 ∧ I64 z2 by unfold I64; omega)
    have H643 := Lib.hid (show V64 ⟨3, lb, 0, 0, 0, 0, 9⟩ from ⟨by show I64 3; unfold I64; omega, HLB.out, by show I64 0; unfold I64; omega, by show I64 0; unfold I64; omega, by show I64 0; unfold I64; omega, by show I64 0; unfold I64; omega, by show I64 9; unfold I64; omega⟩)
    obtain ⟨hh, hhe⟩ : ∃ y, y = heldL E2 := ⟨_, rfl⟩
    have HAH := Lib.hid (show ahL E2 a b2 z2 = hh by unfold ahL; rw [if_pos HV2.out, hhe])
    have hsum : hh + b2 + z2 = a := by rw [hhe]; exact hv2.2.2.2.2.2
    have hh0 : 0 ≤ hh := by
      have h9 := (held_rng (fun q hq => (hv2.1 q hq).1) E2.length (Nat.le_refl _)).1
      rw [List.take_length] at h9
      rw [hhe]; exact h9
    have hab : (0 ≤ a ∧ a ≤ 900000) ∧ (0 ≤ b2 ∧ b2 ≤ 900000) ∧ 0 ≤ z2 ∧ z2 ≤ 900000 := ⟨hv2.2.2.1, hv2.2.2.2.1, hv2.2.2.2.2.1⟩
    have HSUM := Lib.hid hsum
    have HAR := Lib.hid (areaL_rngP HD.out.cuts)
    have HCT := Lib.hid (vCuts_iff.1 HD.out.cuts)
    clear hap2 hok2 ha2 hb2 hE2 hbb2 hzz2 hM2 hv2 hhe hsum hAk
    go_wp2_with fail
    refine (ApplyEvent_fixP lo' hi' _ E E2 a b z a b2 z2 3 lb 0 0 0 0 9 wo HEk.out hhk HIN.out H643.out HAP2.out).mono ?_
    rintro e w10 ⟨A10, c10, rfl, o10, b10⟩
    have HT10 := Lib.hid (HTR.out.below b10 (by omega))
    have By10 := Lib.hid (By.out.trans (b10.mono (by omega)))
    have hs10 : wo.heap.size ≤ w10.heap.size := b10.size
    replace m0 := keepB b10 m0; replace m1 := keepB b10 m1; replace m2 := keepB b10 m2; replace m3 := keepB b10 m3
    clear b10 By t0 t1 t2 t3 ft0 ft1 ft2 ft3
    have hbd : Below w10.heap.size w10 (w10.alloc (.cells #[.slice A10 E2.length c10, .int .i64 a, .int .i64 b2, .int .i64 z2] 25)) := (Below.refl _ _).alloc (Nat.le_refl _) _
    have x_m0 := keepB hbd m0
    have x_m1 := keepB hbd m1
    have x_m2 := keepB hbd m2
    have x_m3 := keepB hbd m3
    go_wp2
    clear hbd x_m0 x_m1 x_m2 x_m3
    obtain ⟨w11, hw1⟩ : ∃ w11, w11 = w10.alloc (.cells #[.slice A10 E2.length c10, .int .i64 a, .int .i64 b2, .int .i64 z2] 25) := ⟨_, rfl⟩
    have x0 : w11.cell? ⟨w10.heap.size, 0, none⟩ = some (.slice A10 E2.length c10) := by rw [hw1]; go_simp
    have x1 : w11.cell? ⟨w10.heap.size, 1, none⟩ = some (.int .i64 a) := by rw [hw1]; go_simp
    have x2 : w11.cell? ⟨w10.heap.size, 2, none⟩ = some (.int .i64 b2) := by rw [hw1]; go_simp
    have x3 : w11.cell? ⟨w10.heap.size, 3, none⟩ = some (.int .i64 z2) := by rw [hw1]; go_simp
    have bx : Below w10.heap.size w10 w11 := by rw [hw1]; exact (Below.refl _ _).alloc (Nat.le_refl _) _
    have zx : w10.heap.size < w11.heap.size := by rw [hw1]; simp
    have Hx := Lib.hid (show w11.heap[w10.heap.size]? = some (.cells #[.slice A10 E2.length c10, .int .i64 a, .int .i64 b2, .int .i64 z2] 25) by rw [hw1]; exact heap_alloc_new w10 _)
    rw [← hw1]
    clear hw1
    have HT11 := Lib.hid (HT10.out.below bx (by omega))
    have By11 := Lib.hid (By10.out.trans (bx.mono (by omega)))
    have HO11 := Lib.hid (o10.below bx (Nat.le_refl _)).es
    have hs11 : w10.heap.size < w11.heap.size := zx
    replace m0 := keepB bx m0; replace m1 := keepB bx m1; replace m2 := keepB bx m2; replace m3 := keepB bx m3
    clear bx zx Hx o10 By10 HT10 HTR
    go_loopw [15, 16, 17] (fun av i _ wr => ∃ (j : Nat) (y : Int), j ≤ k ∧ i = .int .i64 (j : Int) ∧ av = .int .i64 y ∧ Hid (y = areaL Q j) ∧ (0 ≤ y ∧ y ≤ 1440000) ∧ Hid (Below w11.heap.size w11 wr)) (fun _ i _ _ => k - (intOf i).toNat)
    case atStart => exact ⟨0, 0, Nat.zero_le _, rfl, rfl, rfl, ⟨by omega, by omega⟩, Below.refl _ _⟩
    case round =>
      obtain ⟨j, av, hj, rfl, rfl, HAV, hav, HX⟩ := hrel
      obtain ⟨wx, rfl⟩ : ∃ wx : World, wx = wr := ⟨_, rfl⟩
      have bX := HX.out
      have hsx : w11.heap.size ≤ wx.heap.size := bX.size
      by_cases hjk : j < k
      · have j0 : (0 : Int) ≤ (j : Int) := by omega
        have j1 : (j : Int) < (k : Int) := by omega
        have hjQ : j < Q.length := by omega
        obtain ⟨b7, o7, hA7, hb71, hb72, p0, p1, p2, p3, p4, p5, p6⟩ := (HT11.out.below HX.out (by omega)).c7 (i := j) (by have := HEL.out; omega)
        subst hA7
        rw [HEV.out j hjQ] at p0 p1 p2 p3 p4 p5 p6
        have hc := HCT.out.2.2 j hjQ
        unfold cutOk at hc
        rw [Bool.and_eq_true] at hc
        have hpv := pv_rng hc.1
        have hr := vReel_rng HCT.out.1
        have hat := areaT_rng hc.1 hr.2.1 hr.2.2.2
        have HA1 := Lib.hid (show areaL Q (j + 1) = av + areaT (gr Q j) by rw [HAV.out]; rfl)
        have HAB := Lib.hid (HAR.out (j + 1) (by omega))
        obtain ⟨y0, hy0⟩ : ∃ y, y = gi (gr Q j) 0 := ⟨_, rfl⟩
        obtain ⟨y1, hy1⟩ : ∃ y, y = gi (gr Q j) 1 := ⟨_, rfl⟩
        obtain ⟨y2, hy2⟩ : ∃ y, y = gi (gr Q j) 2 := ⟨_, rfl⟩
        obtain ⟨y3, hy3⟩ : ∃ y, y = gi (gr Q j) 3 := ⟨_, rfl⟩
        replace p2 : wx.cell? ⟨b7, o7 + j * 7 + 2, none⟩ = some (.int .i64 y0) := by rw [hy0]; exact p2
        replace p3 : wx.cell? ⟨b7, o7 + j * 7 + 3, none⟩ = some (.int .i64 y1) := by rw [hy1]; exact p3
        replace p4 : wx.cell? ⟨b7, o7 + j * 7 + 4, none⟩ = some (.int .i64 y2) := by rw [hy2]; exact p4
        replace p5 : wx.cell? ⟨b7, o7 + j * 7 + 5, none⟩ = some (.int .i64 y3) := by rw [hy3]; exact p5
        obtain ⟨pr, hpr⟩ : ∃ y, y = (y1 - y0) * (y3 - y2) := ⟨_, rfl⟩
        have hpr2 : areaT (gr Q j) = pr := by unfold areaT; rw [← hy0, ← hy1, ← hy2, ← hy3, hpr]
        rw [hpr2] at hat HA1
        rw [← hy0, ← hy1, ← hy2, ← hy3] at hpv
        have hWr : (ge es i0).W ≤ 60 := hr.2.1
        have hLr : (ge es i0).L ≤ 400 := hr.2.2.2
        have hyb : (0 ≤ y0 ∧ y0 ≤ 60) ∧ (0 ≤ y1 ∧ y1 ≤ 60) ∧ (0 ≤ y2 ∧ y2 ≤ 400) ∧ 0 ≤ y3 ∧ y3 ≤ 400 := by
          obtain ⟨z1, z2', z3, z4, z5, z6⟩ := hpv
          replace z3 : y1 ≤ (ge es i0).W := z3
          replace z6 : y3 ≤ (ge es i0).L := z6
          exact ⟨⟨by omega, by omega⟩, ⟨by omega, by omega⟩, ⟨by omega, by omega⟩, by omega, by omega⟩
        have g1 : IntKind.i64.wrap (y1 - y0) = y1 - y0 := IntWalk.i64_in _ (by omega)
        have g2 : IntKind.i64.wrap (y3 - y2) = y3 - y2 := IntWalk.i64_in _ (by omega)
        have g3 : IntKind.i64.wrap ((y1 - y0) * (y3 - y2)) = pr := by rw [← hpr]; exact IntWalk.i64_in _ (by omega)
        have g4 : IntKind.i64.wrap (av + pr) = av + pr := IntWalk.i64_in _ (by omega)
        have gj : IntKind.i64.wrap ((j : Int) + 1) = ((j + 1 : Nat) : Int) := IntWalk.i64_in _ (by omega)
        have bl : Below wx.heap.size wx (wx.alloc (.cells #[.int .i64 y0, .int .i64 y1, .int .i64 y2, .int .i64 y3] 38)) := (Below.refl _ _).alloc (Nat.le_refl _) _
        have HXL := Lib.hid (HX.out.trans (bl.mono hsx))
        have HA2 := Lib.hid (show av + pr = areaL Q (j + 1) from HA1.out.symm)
        have hab2 : 0 ≤ av + pr ∧ av + pr ≤ 1440000 := by have h8 := HAB.out; rw [HA1.out] at h8; omega
        clear hc hpv hr hat hy0 hy1 hy2 hy3 hpr hpr2 hyb bl bX hWr hLr
        go_wp2
        go_roundw
        case rel => exact ⟨j + 1, av + pr, by omega, by go_num, rfl, HA2.out, hab2, HXL.out⟩
        case measure => simp [intOf]; omega
      have hnj : ¬ (j : Int) < (k : Int) := by omega
      obtain rfl : j = k := by omega
      have HBV := Lib.hid (show b + av = b2 by rw [HBA.out, HAV.out, hkq])
      have gb9 : IntKind.i64.wrap (b + av) = b2 := by rw [HBV.out]; exact IntWalk.i64_in _ (by omega)
      have gs1 : IntKind.i64.wrap (hh + b2) = hh + b2 := IntWalk.i64_in _ (by have := HSUM.out; omega)
      have gs2 : IntKind.i64.wrap (hh + b2 + z2) = a := by rw [HSUM.out]; exact IntWalk.i64_in _ (by omega)
      have e1 : (b2 == b2) = true := beq_t rfl
      have e2 : (a == a) = true := beq_t rfl
      replace m0 := keepB bX m0; replace m1 := keepB bX m1; replace m2 := keepB bX m2; replace m3 := keepB bX m3; replace x0 := keepB bX x0; replace x1 := keepB bX x1; replace x2 := keepB bX x2; replace x3 := keepB bX x3
      have HOx := Lib.hid (HO11.out.below bX (by omega))
      have Byx := Lib.hid (By11.out.trans (bX.mono (by omega)))
      clear bX
      go_wp2
      refine wp_region_held_drew (S := fun w' => w'.cell? ⟨w1.heap.size, 0, none⟩ = some (.slice A es.length c) ∧ w'.cell? ⟨w1.heap.size, 1, none⟩ = some (.int .i64 a) ∧ w'.cell? ⟨w1.heap.size, 2, none⟩ = some (.int .i64 b) ∧ w'.cell? ⟨w1.heap.size, 3, none⟩ = some (.int .i64 z) ∧ w'.cell? ⟨w10.heap.size, 0, none⟩ = some (.slice A10 E2.length c10) ∧ w'.cell? ⟨w10.heap.size, 1, none⟩ = some (.int .i64 a) ∧ w'.cell? ⟨w10.heap.size, 2, none⟩ = some (.int .i64 b2) ∧ w'.cell? ⟨w10.heap.size, 3, none⟩ = some (.int .i64 z2)) (by kernel_rfl) ?_ (fun hHeld => ?_)
      · (first | (try dsimp only); go_keep | (go_split_ands; refine ⟨?_, ?_, ?_, ?_, ?_, ?_, ?_, ?_⟩ <;> first | exact keepB bx1 (by assumption) | assumption))
      refine tkW 0 126 rfl rfl (by kernel_rfl) hHeld (by intro w hSw; (try dsimp only at hSw); go_simp; try with_reducible rfl) ?_ (fun _ _ _ h => h)
      simp only [Act.put, lyA, lyB, lyC]
      refine tkW 1 127 rfl rfl (by kernel_rfl) hHeld (by intro w hSw; (try dsimp only at hSw); go_simp; try with_reducible rfl) ?_ (fun _ _ _ h => h)
      simp only [Act.put, lyA, lyB, lyC]
      refine tkW 2 128 rfl rfl (by kernel_rfl) hHeld (by intro w hSw; (try dsimp only at hSw); go_simp; try with_reducible rfl) ?_ (fun _ _ _ h => h)
      simp only [Act.put, lyA, lyB, lyC]
      refine tkW 3 129 rfl rfl (by kernel_rfl) hHeld (by intro w hSw; (try dsimp only at hSw); go_simp; try with_reducible rfl) ?_ (fun _ _ _ h => h)
      simp only [Act.put, lyA, lyB, lyC]
      refine tkW 4 130 rfl rfl (by kernel_rfl) hHeld (by intro w hSw; (try dsimp only at hSw); go_simp; try with_reducible rfl) ?_ (fun _ _ _ h => h)
      simp only [Act.put, lyA, lyB, lyC]
      refine tkW 5 131 rfl rfl (by kernel_rfl) hHeld (by intro w hSw; (try dsimp only at hSw); go_simp; try with_reducible rfl) ?_ (fun _ _ _ h => h)
      simp only [Act.put, lyA, lyB, lyC]
      refine tkW 6 132 rfl rfl (by kernel_rfl) hHeld (by intro w hSw; (try dsimp only at hSw); go_simp; try with_reducible rfl) ?_ (fun _ _ _ h => h)
      simp only [Act.put, lyA, lyB, lyC]
      refine tkW 7 133 rfl rfl (by kernel_rfl) hHeld (by intro w hSw; (try dsimp only at hSw); go_simp; try with_reducible rfl) ?_ (fun _ _ _ h => h)
      simp only [Act.put, lyA, lyB, lyC]
      refine tkW 8 134 rfl rfl (by kernel_rfl) hHeld (by intro w hSw; (try dsimp only at hSw); go_simp; try with_reducible rfl) ?_ (fun _ _ _ h => h)
      simp only [Act.put, lyA, lyB, lyC]
      refine tkW 9 135 rfl rfl (by kernel_rfl) hHeld (by intro w hSw; (try dsimp only at hSw); go_simp; try with_reducible rfl) ?_ (fun _ _ _ h => h)
      simp only [Act.put, lyA, lyB, lyC]
      refine tkW 10 136 rfl rfl (by kernel_rfl) hHeld (by intro w hSw; (try dsimp only at hSw); go_simp; try with_reducible rfl) ?_ (fun _ _ _ h => h)
      simp only [Act.put, lyA, lyB, lyC]
      refine tkW 11 137 rfl rfl (by kernel_rfl) hHeld (by intro w hSw; (try dsimp only at hSw); go_simp; try with_reducible rfl) ?_ (fun _ _ _ h => h)
      simp only [Act.put, lyA, lyB, lyC]
      refine tkW 13 139 rfl rfl (by kernel_rfl) hHeld (by intro w hSw; (try dsimp only at hSw); go_simp; try with_reducible rfl) ?_ (fun _ _ _ h => h)
      simp only [Act.put, lyA, lyB, lyC]
      refine tkW 14 140 rfl rfl (by kernel_rfl) hHeld (by intro w hSw; (try dsimp only at hSw); go_simp; try with_reducible rfl) ?_ (fun _ _ _ h => h)
      simp only [Act.put, lyA, lyB, lyC]
      refine tkW 16 142 rfl rfl (by kernel_rfl) hHeld (by intro w hSw; (try dsimp only at hSw); go_simp; try with_reducible rfl) ?_ (fun _ _ _ h => h)
      simp only [Act.put, lyA, lyB, lyC]
      refine tkW 17 143 rfl rfl (by kernel_rfl) hHeld (by intro w hSw; (try dsimp only at hSw); go_simp; try with_reducible rfl) ?_ (fun _ _ _ h => h)
      simp only [Act.put, lyA, lyB, lyC]
      refine tkW 19 145 rfl rfl (by kernel_rfl) hHeld (by intro w hSw; (try dsimp only at hSw); go_simp; try with_reducible rfl) ?_ (fun _ _ _ h => h)
      simp only [Act.put, lyA, lyB, lyC]
      refine tkW 20 146 rfl rfl (by kernel_rfl) hHeld (by intro w hSw; (try dsimp only at hSw); go_simp; try with_reducible rfl) ?_ (fun _ _ _ h => h)
      simp only [Act.put, lyA, lyB, lyC]
      refine wpAnyH_ready (rs := [12]) (by kernel_rfl) (by simp) ?_
      refine AllReadyH.cons (o := ⟨some 138, _, _, _, _, _⟩) rfl (fun K hK => ?_) AllReadyH.nil
      go_simp
      go_at_call 14
      refine (AreaHeld_any _ _ _ E2 a b2 z2 wx.drew (HOx.out.kept fun _ _ _ => rfl) (by show w10.heap.size ≤ wx.heap.size; omega) HIN2.out).mono ?_
      rw [HAH.out]
      rintro e x7 ⟨rfl, bx1⟩
      go_wp2_with fail
      refine hK.out _ _ ?_ (fun hHeld2 => ?_)
      · (first | (try dsimp only); go_keep | (go_split_ands; refine ⟨?_, ?_, ?_, ?_, ?_, ?_, ?_, ?_⟩ <;> first | exact keepB bx1 (by assumption) | assumption))
      clear hK K hHeld
      have hHeld := hHeld2
      clear hHeld2
      try simp only [Act.put, lyA, lyB, lyC]
      refine tkW 15 141 rfl rfl (by kernel_rfl) hHeld (by intro w hSw; (try dsimp only at hSw); go_simp; try with_reducible rfl) ?_ (fun _ _ _ h => h)
      simp only [Act.put, lyA, lyB, lyC]
      refine tkW 18 144 rfl rfl (by kernel_rfl) hHeld (by intro w hSw; (try dsimp only at hSw); go_simp; try with_reducible rfl) ?_ (fun _ _ _ h => h)
      simp only [Act.put, lyA, lyB, lyC]
      refine tkW 21 147 rfl rfl (by kernel_rfl) hHeld (by intro w hSw; (try dsimp only at hSw); go_simp; try with_reducible rfl) ?_ (fun _ _ _ h => h)
      simp only [Act.put, lyA, lyB, lyC]
      refine tkW 22 148 rfl rfl (by kernel_rfl) hHeld (by intro w hSw; (try dsimp only at hSw); go_simp; try with_reducible rfl) ?_ (fun _ _ _ h => h)
      simp only [Act.put, lyA, lyB, lyC]
      refine tkW 23 2 rfl rfl (by kernel_rfl) hHeld (by intro w hSw; (try dsimp only at hSw); go_simp; try with_reducible rfl) ?_ (fun _ _ _ h => h)
      simp only [Act.put, lyA, lyB, lyC]
      refine wpAnyH_done (by kernel_rfl) ?_ _
      focus
        have HBF := Lib.hid (Byx.out.trans ((of_drew bx1).mono (by omega)))
        go_wp2
        go_ret
        exact ⟨rfl, HBW.out _ HBF.out⟩
end Go.Proofs.YtkgepklapglmdaaGreatDoor
