/-
  Texts merged into one: what each function does, and plain lemmas. No condition.
-/
import Derived.Test.YtkgepklapglmdaaEvA
import Derived.Laws.StructEq
import Derived.Test.YtkgepklapglmdaaDrwC
import Derived.Test.YtkgepklapglmdaaPlaS
import Derived.Test.YtkgepklapglmdaaMillT
namespace Go.Proofs.Ytkgepklapglmdaa
open Go.RowKit
attribute [local go_sem ↓] Go.wp_at_zero Go.wp_at_succ

set_option maxRecDepth 100000 in
set_option maxHeartbeats 2000000 in
theorem equalEvents_same (l1 h1 l2 h2 : Nat) (v u : Value) (xs : List (List Int)) (w : World) (h : TS w l1 h1 7 v xs) (hh : h1 ≤ w.heap.size) (hy : TS w l2 h2 7 u xs) (hh2 : h2 ≤ w.heap.size) :
    Calls Try.prog 18 #[v, u] w fun e w' => e = .returned (.bool true) ∧ Below w.heap.size w w' := by
  obtain ⟨A, c, rfl, hc, hm⟩ := h.form
  obtain ⟨B, d, rfl, hd, hm'⟩ := hy.form
  have hl' : ((xs.length : Int) != (xs.length : Int)) = false := bne_f rfl
  go_enter Try.func18, Try.ntmps18
  go_wp2
  clear hl'
  go_loopw [5] (fun i wr => ∃ k : Nat, k ≤ xs.length ∧ i = .int .i64 k ∧ Below w.heap.size w wr) (fun i _ => xs.length - (intOf i).toNat)
  case atStart => exact ⟨0, by omega, rfl, Below.refl _ _⟩
  case round =>
    obtain ⟨k, hk, rfl, bw⟩ := hrel
    by_cases hlt : k < xs.length
    · obtain ⟨b, o, rfl, _, _, e0, e1, e2, e3, e4, e5, e6⟩ := (h.below bw hh).c7 hlt
      obtain ⟨b2, o2, rfl, _, _, f0, f1, f2, f3, f4, f5, f6⟩ := (hy.below bw hh2).c7 hlt
      obtain ⟨d0, hd0⟩ : ∃ d, d = gi (gr xs k) 0 := ⟨_, rfl⟩
      rw [← hd0] at e0 f0
      have q0 : (d0 == d0) = true := beq_t rfl
      obtain ⟨d1, hd1⟩ : ∃ d, d = gi (gr xs k) 1 := ⟨_, rfl⟩
      rw [← hd1] at e1 f1
      have q1 : (d1 == d1) = true := beq_t rfl
      obtain ⟨d2, hd2⟩ : ∃ d, d = gi (gr xs k) 2 := ⟨_, rfl⟩
      rw [← hd2] at e2 f2
      have q2 : (d2 == d2) = true := beq_t rfl
      obtain ⟨d3, hd3⟩ : ∃ d, d = gi (gr xs k) 3 := ⟨_, rfl⟩
      rw [← hd3] at e3 f3
      have q3 : (d3 == d3) = true := beq_t rfl
      obtain ⟨d4, hd4⟩ : ∃ d, d = gi (gr xs k) 4 := ⟨_, rfl⟩
      rw [← hd4] at e4 f4
      have q4 : (d4 == d4) = true := beq_t rfl
      obtain ⟨d5, hd5⟩ : ∃ d, d = gi (gr xs k) 5 := ⟨_, rfl⟩
      rw [← hd5] at e5 f5
      have q5 : (d5 == d5) = true := beq_t rfl
      obtain ⟨d6, hd6⟩ : ∃ d, d = gi (gr xs k) 6 := ⟨_, rfl⟩
      rw [← hd6] at e6 f6
      have q6 : (d6 == d6) = true := beq_t rfl
      clear h hy hd0 hd1 hd2 hd3 hd4 hd5 hd6
      have hk0 : (0 : Int) ≤ (k : Int) := by omega
      have hk1 : (k : Int) < (xs.length : Int) := by omega
      go_wp2
      go_region_held3 (fun w' => w'.cell? ⟨b, o + k * 7, none⟩ = some (.int .i64 d0) ∧ w'.cell? ⟨b, o + k * 7 + 1, none⟩ = some (.int .i64 d1) ∧ w'.cell? ⟨b, o + k * 7 + 2, none⟩ = some (.int .i64 d2) ∧ w'.cell? ⟨b, o + k * 7 + 3, none⟩ = some (.int .i64 d3) ∧ w'.cell? ⟨b, o + k * 7 + 4, none⟩ = some (.int .i64 d4) ∧ w'.cell? ⟨b, o + k * 7 + 5, none⟩ = some (.int .i64 d5) ∧ w'.cell? ⟨b, o + k * 7 + 6, none⟩ = some (.int .i64 d6) ∧ w'.cell? ⟨b2, o2 + k * 7, none⟩ = some (.int .i64 d0) ∧ w'.cell? ⟨b2, o2 + k * 7 + 1, none⟩ = some (.int .i64 d1) ∧ w'.cell? ⟨b2, o2 + k * 7 + 2, none⟩ = some (.int .i64 d2) ∧ w'.cell? ⟨b2, o2 + k * 7 + 3, none⟩ = some (.int .i64 d3) ∧ w'.cell? ⟨b2, o2 + k * 7 + 4, none⟩ = some (.int .i64 d4) ∧ w'.cell? ⟨b2, o2 + k * 7 + 5, none⟩ = some (.int .i64 d5) ∧ w'.cell? ⟨b2, o2 + k * 7 + 6, none⟩ = some (.int .i64 d6)) (first | go_keep) (fail)
      go_wp2
      go_roundw
      case rel => exact ⟨k + 1, by omega, by go_num, bw.trans ⟨rfl, rfl, rfl, Nat.le_refl _, fun _ _ => rfl⟩⟩
      case measure => simp [intOf]; omega
    · go_wp2
      go_ret
      exact ⟨rfl, bw⟩
end Go.Proofs.Ytkgepklapglmdaa

namespace Go.Proofs.Ytkgepklapglmdaa
open Go.RowKit
attribute [local go_sem ↓] Go.wp_at_zero Go.wp_at_succ

theorem mergeD {F G : Nat → World → Option Addr → Nat → Prop} {Goal : Prop} (h1 : (∀ X w B d, F X w B d → G X w B d) → Goal) (h2 : ∀ X w B d, F X w B d → G X w B d) : Goal := h1 h2
theorem ApplyEvent_fixP (lo hi : Nat) (v : Value) (es1 es2 : List Ent) (a b z a2 b2 z2 k lb l r f t g : Int) (w : World) (h : ES w lo hi v es1) (hhi : hi ≤ w.heap.size) (hin : I64 a ∧ I64 b ∧ I64 z) (h64 : V64 ⟨k, lb, l, r, f, t, g⟩) (hap : apV ⟨es1, a, b, z⟩ ⟨k, lb, l, r, f, t, g⟩ = some ⟨es2, a2, b2, z2⟩) :
    Calls Try.prog 19 #[.agg #[v, .int .i64 a, .int .i64 b, .int .i64 z], .agg #[.int .i64 k, .int .i64 lb, .int .i64 l, .int .i64 r, .int .i64 f, .int .i64 t, .int .i64 g]] w fun e w' => ∃ A c, e = .returned (.tuple #[.agg #[.slice A es2.length c, .int .i64 a2, .int .i64 b2, .int .i64 z2], .bool true]) ∧ OwnE w' w.heap.size w'.heap.size 56 83 48 (.slice A es2.length c) es2 ∧ Below w.heap.size w w' := by
  refine (ApplyEvent_any lo hi v ⟨es1, a, b, z⟩ ⟨k, lb, l, r, f, t, g⟩ w h hhi hin h64).mono ?_
  rintro e w' ⟨u, rfl, he, hb⟩
  rw [hap] at he ⊢
  obtain ⟨A, c, hA, _⟩ := he.form
  obtain rfl : u = .slice A es2.length c := hA
  exact ⟨A, c, rfl, he, hb⟩
set_option maxRecDepth 100000 in
set_option maxHeartbeats 16000000 in
theorem FnPlanCuts_walk (v : Value) (bs : List Int) (w : World) (h : Bytes w 0 w.heap.size v bs) :
    Calls Try.prog 4 #[v] w fun e w' => e = .returned (.bool true) ∧ Below w.heap.size w w' := by
  have hv : ∃ A c, v = .slice A bs.length c ∧ bs.length ≤ c ∧ c ≤ 2 ^ 63 - 1 := by obtain ⟨A, c, e, h1, h2, _⟩ := h; exact ⟨A, c, e, h1, by unfold maxLen at h2; omega⟩
  obtain ⟨A0, c0, rfl, hc0, hm0⟩ := hv
  by_cases hl : 1048576 < bs.length
  · have hl' : (1048576 : Int) < (bs.length : Int) := by omega
    go_enter Try.func4, Try.ntmps4
    go_wp2
    go_ret
    exact ⟨rfl, Below.refl _ _⟩
  have hl' : ¬ (1048576 : Int) < (bs.length : Int) := by omega
  go_enter Try.func4, Try.ntmps4
  go_wp2_with fail
  refine (DrawPlanCuts_any _ bs w h).mono ?_
  rintro e w1 ⟨A, n, c, es, a, b, z, lb, u2, u3, ws, xs, rfl, hn, hes, hbd, hlb, hw, hx, b1⟩
  subst hn
  obtain ⟨_, _, heq, hc, hm⟩ := hes.form
  injection heq with q1 q2 q3
  subst q1 q3
  obtain ⟨A2, c2, rfl, hc2, hm2⟩ := hw.form
  obtain ⟨A3, c3, rfl, hc3, hm3⟩ := hx.form
  have HIN := Lib.hid (show I64 a ∧ I64 b ∧ I64 z by unfold I64; omega)
  have HB1 := Lib.hid b1
  have HBW := Lib.hid (show ∀ w9, Below w1.heap.size w1 w9 → Below w.heap.size w w9 from fun w9 h9 => b1.trans (h9.mono b1.size))
  have HES := Lib.hid (show ∀ w9, Below w1.heap.size w1 w9 → ES w9 w.heap.size w1.heap.size (.slice A es.length c) es from fun w9 hb => hes.below hb (Nat.le_refl _))
  have HWS := Lib.hid (show ∀ w9, Below w1.heap.size w1 w9 → Ints w9 w.heap.size w1.heap.size (.slice A2 ws.length c2) ws from fun w9 hb => hw.below hb (Nat.le_refl _))
  have HXS := Lib.hid (show ∀ w9, Below w1.heap.size w1 w9 → Ints w9 w.heap.size w1.heap.size (.slice A3 xs.length c3) xs from fun w9 hb => hx.below hb (Nat.le_refl _))
  obtain ⟨R, hR⟩ : ∃ R, R = plL ⟨es, a, b, z⟩ lb ws xs := ⟨_, rfl⟩
  obtain ⟨ok, hok⟩ : ∃ ok, ok = plB ⟨es, a, b, z⟩ lb ws xs := ⟨_, rfl⟩
  have HR := Lib.hid hR
  have HOK := Lib.hid hok
  have hR60 : R.length ≤ 60 := by rw [hR]; exact plL_len _ _ _ _
  have HLB := Lib.hid hlb
  have hs1 : w.heap.size ≤ w1.heap.size := b1.size
  clear h hl hl' hes hbd hlb hw hx b1 hR hok
  go_wp2_with fail
  obtain ⟨w2, hw1⟩ : ∃ w2, w2 = w1.alloc (.cells #[.slice A es.length c, .int .i64 a, .int .i64 b, .int .i64 z] 32) := ⟨_, rfl⟩
  have m0 : w2.cell? ⟨w1.heap.size, 0, none⟩ = some (.slice A es.length c) := by rw [hw1]; go_simp
  have m1 : w2.cell? ⟨w1.heap.size, 1, none⟩ = some (.int .i64 a) := by rw [hw1]; go_simp
  have m2 : w2.cell? ⟨w1.heap.size, 2, none⟩ = some (.int .i64 b) := by rw [hw1]; go_simp
  have m3 : w2.cell? ⟨w1.heap.size, 3, none⟩ = some (.int .i64 z) := by rw [hw1]; go_simp
  have bm : Below w1.heap.size w1 w2 := by rw [hw1]; exact (Below.refl _ _).alloc (Nat.le_refl _) _
  have zm : w1.heap.size < w2.heap.size := by rw [hw1]; simp
  have Hm := Lib.hid (show w2.heap[w1.heap.size]? = some (.cells #[.slice A es.length c, .int .i64 a, .int .i64 b, .int .i64 z] 32) by rw [hw1]; exact heap_alloc_new w1 _)
  rw [← hw1]
  clear hw1
  have By2 := Lib.hid bm
  have hs2 : w1.heap.size < w2.heap.size := zm
  clear bm zm Hm
  refine (PlanCutsI_fix _ _ _ _ _ _ _ _ _ ⟨es, a, b, z⟩ lb ws xs R ok w2 (HES.out w2 By2.out) (by omega) HIN.out HLB.out (HWS.out w2 By2.out) (by omega) (HXS.out w2 By2.out) (by omega) HR.out HOK.out).mono ?_
  rintro e w3 ⟨AO, cO, rfl, o3, b3⟩
  have HT3 := Lib.hid o3.ts
  have By3 := Lib.hid (By2.out.trans (b3.mono (by omega)))
  have hs3 : w2.heap.size ≤ w3.heap.size := b3.size
  replace m0 := keepB b3 m0; replace m1 := keepB b3 m1; replace m2 := keepB b3 m2; replace m3 := keepB b3 m3
  clear b3 o3 By2
  go_wp2_with fail
  refine (PlanCutsS_fix _ _ _ _ _ _ _ _ _ ⟨es, a, b, z⟩ lb ws xs R ok w3 (HES.out w3 By3.out) (by omega) HIN.out HLB.out (HWS.out w3 By3.out) (by omega) (HXS.out w3 By3.out) (by omega) HR.out HOK.out).mono ?_
  rintro e w4 ⟨AS, cS, rfl, o4, b4⟩
  have HT4 := Lib.hid (HT3.out.below b4 (Nat.le_refl _))
  have HU4 := Lib.hid o4.ts
  have By4 := Lib.hid (By3.out.trans (b4.mono (by omega)))
  have hs4 : w3.heap.size ≤ w4.heap.size := b4.size
  replace m0 := keepB b4 m0; replace m1 := keepB b4 m1; replace m2 := keepB b4 m2; replace m3 := keepB b4 m3
  clear b4 o4 By3 HT3
  go_wp2_with fail
  refine (equalEvents_same _ _ _ _ _ _ (evT R) w4 HT4.out hs4 HU4.out (Nat.le_refl _)).mono ?_
  rintro e w5 ⟨rfl, b5⟩
  have HT5 := Lib.hid (HT4.out.below b5 hs4)
  have HU5 := Lib.hid (HU4.out.below b5 (Nat.le_refl _))
  have By5 := Lib.hid (By4.out.trans (b5.mono (by omega)))
  have hs5 : w4.heap.size ≤ w5.heap.size := b5.size
  replace m0 := keepB b5 m0; replace m1 := keepB b5 m1; replace m2 := keepB b5 m2; replace m3 := keepB b5 m3
  clear b5 By4 HT4 HU4
  cases ok
  · go_wp2_with fail
    refine (equalEvents_same _ _ _ _ _ _ (evT R) w5 HT5.out (by omega) HU5.out (by omega)).mono ?_
    rintro e w6 ⟨rfl, b6⟩
    have By6 := Lib.hid (By5.out.trans (b6.mono (by omega)))
    clear b6
    go_wp2
    go_ret
    exact ⟨rfl, HBW.out _ By6.out⟩
  obtain ⟨i0, C, Q, hD⟩ := plan_data HOK.out.symm
  have HD := Lib.hid hD
  have hRQ : R = plE lb Q := by rw [HR.out]; exact hD.ev
  have hn : R.length = Q.length := by rw [hRQ, plE_len]
  have HEV := Lib.hid (show ∀ k, k < Q.length → gr (evT R) k = [2, lb, gi (gr Q k) 0, gi (gr Q k) 1, gi (gr Q k) 2, gi (gr Q k) 3, 0] from fun k hk => by rw [hRQ]; exact evT_at lb hk)
  have HNQ := Lib.hid hn
  have HRQ := Lib.hid hRQ
  have hQ60 : Q.length ≤ 60 := by omega
  have HEL := Lib.hid (evT_len R)
  clear hD hRQ HU5
  obtain ⟨n, hnn⟩ : ∃ n, n = R.length := ⟨_, rfl⟩
  rw [← hnn] at hn hR60 HEL ⊢
  have HTN := Lib.hid (show TS w5 w2.heap.size w3.heap.size 7 (.slice AO n cO) (evT R) by have h9 := HT5.out; rw [← hnn] at h9; exact h9)
  have hnq1 : n ≤ Q.length := by omega
  have hnq2 : Q.length ≤ n := by omega
  clear hnn hn HT5
  go_wp2
  obtain ⟨w6, hw1⟩ : ∃ w6, w6 = w5.alloc (.cells #[.slice A es.length c, .int .i64 a, .int .i64 b, .int .i64 z] 32) := ⟨_, rfl⟩
  have t0 : w6.cell? ⟨w5.heap.size, 0, none⟩ = some (.slice A es.length c) := by rw [hw1]; go_simp
  have t1 : w6.cell? ⟨w5.heap.size, 1, none⟩ = some (.int .i64 a) := by rw [hw1]; go_simp
  have t2 : w6.cell? ⟨w5.heap.size, 2, none⟩ = some (.int .i64 b) := by rw [hw1]; go_simp
  have t3 : w6.cell? ⟨w5.heap.size, 3, none⟩ = some (.int .i64 z) := by rw [hw1]; go_simp
  have bt : Below w5.heap.size w5 w6 := by rw [hw1]; exact (Below.refl _ _).alloc (Nat.le_refl _) _
  have zt : w5.heap.size < w6.heap.size := by rw [hw1]; simp
  have Ht := Lib.hid (show w6.heap[w5.heap.size]? = some (.cells #[.slice A es.length c, .int .i64 a, .int .i64 b, .int .i64 z] 32) by rw [hw1]; exact heap_alloc_new w5 _)
  rw [← hw1]
  clear hw1
  have HM6 := Lib.hid (show MB w6 w5.heap.size (.slice A es.length c) a b z from Ht.out)
  obtain ⟨T, hT⟩ : ∃ T, T = w5.heap.size := ⟨_, rfl⟩
  have hTs : T < w6.heap.size := by omega
  have hT5 : T = w5.heap.size := hT
  have HTW := Lib.hid (HTN.out.below bt (by omega))
  have By6 := Lib.hid (By5.out.trans (bt.mono (by omega)))
  have HES6 := Lib.hid (HES.out w6 By6.out)
  have HE0 := Lib.hid (show es = (mlK ⟨es, a, b, z⟩ i0 Q 0).es by rw [mlK_zero HD.out])
  have hT1 : w1.heap.size ≤ T := by omega
  have hT3 : w3.heap.size ≤ T := by omega
  rw [← hT] at HM6 ⊢
  clear bt Ht t0 t1 t2 t3 zt hT hT5 m0 m1 m2 m3 By5 HTN
  go_loopw [12, 13, 14] (fun i _ _ wr => ∃ (k : Nat) (E : List Ent) (Ak : Option Addr) (ck lo' hi' : Nat), k ≤ n ∧ i = .int .i64 (k : Int) ∧ Hid (E = (mlK ⟨es, a, b, z⟩ i0 Q k).es) ∧ Hid (MB wr T (.slice Ak E.length ck) a b z) ∧ Hid (ES wr lo' hi' (.slice Ak E.length ck) E) ∧ (hi' ≤ wr.heap.size ∧ (T < lo' ∨ hi' ≤ T)) ∧ Hid (Below T w6 wr) ∧ T < wr.heap.size) (fun i _ _ _ => n - (intOf i).toNat)
  case atStart => exact ⟨0, es, A, c, w.heap.size, w1.heap.size, Nat.zero_le _, rfl, HE0.out, HM6.out, HES6.out, ⟨by omega, .inr hT1⟩, Below.refl _ _, hTs⟩
  case round =>
    obtain ⟨k, E, Ak, ck, lo', hi', hk, rfl, HE, HM, HEk, ⟨hhk, hTk⟩, HB, hTr⟩ := hrel
    obtain ⟨wo, rfl⟩ : ∃ wo : World, wo = wr := ⟨_, rfl⟩
    clear HE0 HM6 HES6
    have HTR := Lib.hid (HTW.out.below HB.out hT3)
    have hAk := HEk.out.form
    obtain ⟨⟨t0, t1, t2, t3⟩, ⟨ft0, ft1, ft2, ft3⟩⟩ := HM.out.cells
    have By := Lib.hid (By6.out.trans (HB.out.mono hT1))
    by_cases hlt : k < n
    · have k0 : (0 : Int) ≤ (k : Int) := by omega
      have k1 : (k : Int) < (n : Int) := by omega
      obtain ⟨b7, o7, hA7, hb71, hb72, p0, p1, p2, p3, p4, p5, p6⟩ := HTR.out.c7 (i := k) (by have := HEL.out; omega)
      subst hA7
      have hkQ : k < Q.length := by omega
      rw [HEV.out k hkQ] at p0 p1 p2 p3 p4 p5 p6
      have h64 : ∀ j, j < 4 → I64 (gi (gr Q k) j) := fun j hj => by
        have h7 := HTR.out
        obtain ⟨_, _, _, _, _, _, h7⟩ := h7
        have h8 := (h7 _ (gr_mem (show k < (evT R).length by have := HEL.out; omega))).2
        rw [HEV.out k hkQ] at h8
        have : j = 0 ∨ j = 1 ∨ j = 2 ∨ j = 3 := by omega
        rcases this with rfl | rfl | rfl | rfl <;> exact h8 _ (by simp)
      have HST := Lib.hid (mlK_step HD.out hkQ)
      obtain ⟨y0, hy0⟩ : ∃ y, y = gi (gr Q k) 0 := ⟨_, rfl⟩
      obtain ⟨y1, hy1⟩ : ∃ y, y = gi (gr Q k) 1 := ⟨_, rfl⟩
      obtain ⟨y2, hy2⟩ : ∃ y, y = gi (gr Q k) 2 := ⟨_, rfl⟩
      obtain ⟨y3, hy3⟩ : ∃ y, y = gi (gr Q k) 3 := ⟨_, rfl⟩
      have H64 := Lib.hid (show V64 ⟨2, lb, y0, y1, y2, y3, 0⟩ by
        rw [hy0, hy1, hy2, hy3]
        exact ⟨by show I64 2; unfold I64; omega, HLB.out, h64 0 (by omega), h64 1 (by omega), h64 2 (by omega), h64 3 (by omega), by show I64 0; unfold I64; omega⟩)
      replace p0 : wo.cell? ⟨b7, o7 + k * 7, none⟩ = some (.int .i64 2) := p0
      replace p1 : wo.cell? ⟨b7, o7 + k * 7 + 1, none⟩ = some (.int .i64 lb) := p1
      replace p2 : wo.cell? ⟨b7, o7 + k * 7 + 2, none⟩ = some (.int .i64 y0) := by rw [hy0]; exact p2
      replace p3 : wo.cell? ⟨b7, o7 + k * 7 + 3, none⟩ = some (.int .i64 y1) := by rw [hy1]; exact p3
      replace p4 : wo.cell? ⟨b7, o7 + k * 7 + 4, none⟩ = some (.int .i64 y2) := by rw [hy2]; exact p4
      replace p5 : wo.cell? ⟨b7, o7 + k * 7 + 5, none⟩ = some (.int .i64 y3) := by rw [hy3]; exact p5
      replace p6 : wo.cell? ⟨b7, o7 + k * 7 + 6, none⟩ = some (.int .i64 0) := p6
      rw [← hy0, ← hy1, ← hy2, ← hy3] at HST
      obtain ⟨E1, hE1⟩ : ∃ E, E = (mlK ⟨es, a, b, z⟩ i0 Q (k + 1)).es := ⟨_, rfl⟩
      have HE1 := Lib.hid hE1
      have HAP := Lib.hid (show apV ⟨E, a, b, z⟩ ⟨2, lb, y0, y1, y2, y3, 0⟩ = some ⟨E1, a, b, z⟩ by
        have h5 : (⟨E, a, b, z⟩ : Mil) = mlK ⟨es, a, b, z⟩ i0 Q k := by rw [HE.out]; rfl
        have h6 : (⟨E1, a, b, z⟩ : Mil) = mlK ⟨es, a, b, z⟩ i0 Q (k + 1) := by rw [hE1]; rfl
        rw [h5, h6]
        unfold apV
        rw [if_pos (mlK_ok HD.out k)]
        exact HST.out)
      clear hy0 hy1 hy2 hy3 h64 HST hE1
      have hb7T : b7 < T := by omega
      have hneT : ¬ wo.heap.size = T := by omega
      have hneb : ¬ wo.heap.size = b7 := by omega
      have hneT' : ¬ T = wo.heap.size := by omega
      have hneb' : ¬ b7 = wo.heap.size := by omega
      clear hAk
      go_wp2
      refine' mergeD (F := fun U w' A' c' => Below wo.heap.size wo w' ∧ MB w' U (.slice A' E1.length c') a b z ∧ wo.heap.size ≤ U ∧ ∃ lo9 hi9 : Nat, (wo.heap.size ≤ lo9 ∧ hi9 ≤ w'.heap.size) ∧ OwnE w' lo9 hi9 56 83 48 (.slice A' E1.length c') E1) (fun hk9 => ?_) (fun U y6 A' c' hF => ?_)
      rotate_left 1
      ·
        refine wp_region_held_drew (S := fun w' => w'.cell? ⟨T, 0, none⟩ = some (.slice Ak E.length ck) ∧ w'.cell? ⟨T, 1, none⟩ = some (.int .i64 a) ∧ w'.cell? ⟨T, 2, none⟩ = some (.int .i64 b) ∧ w'.cell? ⟨T, 3, none⟩ = some (.int .i64 z) ∧ w'.cell? ⟨b7, o7 + k * 7, none⟩ = some (.int .i64 2) ∧ w'.cell? ⟨b7, o7 + k * 7 + 1, none⟩ = some (.int .i64 lb) ∧ w'.cell? ⟨b7, o7 + k * 7 + 2, none⟩ = some (.int .i64 y0) ∧ w'.cell? ⟨b7, o7 + k * 7 + 3, none⟩ = some (.int .i64 y1) ∧ w'.cell? ⟨b7, o7 + k * 7 + 4, none⟩ = some (.int .i64 y2) ∧ w'.cell? ⟨b7, o7 + k * 7 + 5, none⟩ = some (.int .i64 y3) ∧ w'.cell? ⟨b7, o7 + k * 7 + 6, none⟩ = some (.int .i64 0)) (by kernel_rfl) ?_ (fun hHeld => ?_)
        · (first | (try dsimp only); go_keep | (go_split_ands; refine ⟨?_, ?_, ?_, ?_, ?_, ?_, ?_, ?_, ?_, ?_, ?_⟩ <;> first | exact keepB bx1 (by assumption) | assumption))
        refine wpAnyH_take (i := 0) (oi := ⟨some 73, _, _, _, _, _⟩) (v := _) rfl (by kernel_rfl) (by kernel_rfl) (by kernel_rfl) (fun _ _ _ h => h) (Or.inl ⟨by kernel_rfl, by intro w hSw; (try dsimp only at hSw); go_simp; try with_reducible rfl⟩) (by assumption) ?_
        simp only [Act.put, List.setIfInBounds_toArray, List.set_cons_zero, List.set_cons_succ]
        refine wpAnyH_take (i := 1) (oi := ⟨some 74, _, _, _, _, _⟩) (v := _) rfl (by kernel_rfl) (by kernel_rfl) (by kernel_rfl) (fun _ _ _ h => h) (Or.inl ⟨by kernel_rfl, by intro w hSw; (try dsimp only at hSw); go_simp; try with_reducible rfl⟩) (by assumption) ?_
        simp only [Act.put, List.setIfInBounds_toArray, List.set_cons_zero, List.set_cons_succ]
        refine wpAnyH_take (i := 2) (oi := ⟨some 75, _, _, _, _, _⟩) (v := _) rfl (by kernel_rfl) (by kernel_rfl) (by kernel_rfl) (fun _ _ _ h => h) (Or.inl ⟨by kernel_rfl, by intro w hSw; (try dsimp only at hSw); go_simp; try with_reducible rfl⟩) (by assumption) ?_
        simp only [Act.put, List.setIfInBounds_toArray, List.set_cons_zero, List.set_cons_succ]
        refine wpAnyH_take (i := 3) (oi := ⟨some 76, _, _, _, _, _⟩) (v := _) rfl (by kernel_rfl) (by kernel_rfl) (by kernel_rfl) (fun _ _ _ h => h) (Or.inl ⟨by kernel_rfl, by intro w hSw; (try dsimp only at hSw); go_simp; try with_reducible rfl⟩) (by assumption) ?_
        simp only [Act.put, List.setIfInBounds_toArray, List.set_cons_zero, List.set_cons_succ]
        refine wpAnyH_take (i := 4) (oi := ⟨some 77, _, _, _, _, _⟩) (v := _) rfl (by kernel_rfl) (by kernel_rfl) (by kernel_rfl) (fun _ _ _ h => h) (Or.inl ⟨by kernel_rfl, by intro w hSw; (try dsimp only at hSw); go_simp; try with_reducible rfl⟩) (by assumption) ?_
        simp only [Act.put, List.setIfInBounds_toArray, List.set_cons_zero, List.set_cons_succ]
        refine wpAnyH_ready (rs := [5, 9]) (by kernel_rfl) (by simp) (AllReadyH.cons (o := ⟨some 78, _, _, _, _, _⟩) rfl (fun K hK => ?_) (AllReadyH.cons (o := ⟨some 13, _, _, _, _, _⟩) rfl (fun K hK => ?_) (AllReadyH.nil)))
        focus
          go_simp
          go_at_call 19
          obtain ⟨wq, hwq⟩ : ∃ wq, wq = wo.drew := ⟨_, rfl⟩
          have bq : Below wo.heap.size wo wq := by rw [hwq]; exact (Qt.one _ 1).below _
          have hsq := bq.size
          rw [← hwq]
          clear hwq
          replace t0 := keepB bq t0; replace t1 := keepB bq t1; replace t2 := keepB bq t2; replace t3 := keepB bq t3; replace p0 := keepB bq p0; replace p1 := keepB bq p1; replace p2 := keepB bq p2; replace p3 := keepB bq p3; replace p4 := keepB bq p4; replace p5 := keepB bq p5; replace p6 := keepB bq p6
          refine (ApplyEvent_fixP lo' hi' _ E E1 a b z a b z 2 lb y0 y1 y2 y3 0 wq (HEk.out.below bq hhk) (by omega) HIN.out H64.out HAP.out).mono ?_
          rintro e x2 ⟨A5, c5, rfl, o3, bx_⟩
          replace t0 := keepB bx_ t0; replace t1 := keepB bx_ t1; replace t2 := keepB bx_ t2; replace t3 := keepB bx_ t3; replace p0 := keepB bx_ p0; replace p1 := keepB bx_ p1; replace p2 := keepB bx_ p2; replace p3 := keepB bx_ p3; replace p4 := keepB bx_ p4; replace p5 := keepB bx_ p5; replace p6 := keepB bx_ p6
          have hb_ := bq.trans (bx_.mono bq.size)
          have hlo3 : wo.heap.size ≤ wq.heap.size := hsq
          clear bx_ bq
          go_wp2_with fail
          refine hK.out _ _ ?_ (fun hHeld2 => ?_)
          · (first | (try dsimp only); go_keep | (go_split_ands; refine ⟨?_, ?_, ?_, ?_, ?_, ?_, ?_, ?_, ?_, ?_, ?_⟩ <;> first | exact keepB bx1 (by assumption) | assumption))
          clear hK K hHeld
          have hHeld := hHeld2
          clear hHeld2
          try simp only [Act.put, List.setIfInBounds_toArray, List.set_cons_zero, List.set_cons_succ]
          refine wpAnyH_take (i := 6) (oi := ⟨some 72, _, _, _, _, _⟩) (v := _) rfl (by kernel_rfl) (by kernel_rfl) (by kernel_rfl) (fun _ _ _ h => h) (Or.inl ⟨by kernel_rfl, by intro w hSw; (try dsimp only at hSw); go_simp; try with_reducible rfl⟩) (by assumption) ?_
          simp only [Act.put, List.setIfInBounds_toArray, List.set_cons_zero, List.set_cons_succ]
          refine wpAnyH_take (i := 7) (oi := ⟨some 79, _, _, _, _, _⟩) (v := _) rfl (by kernel_rfl) (by kernel_rfl) (by kernel_rfl) (fun _ _ _ h => h) (Or.inl ⟨by kernel_rfl, by intro w hSw; (try dsimp only at hSw); go_simp; try with_reducible rfl⟩) (by assumption) ?_
          simp only [Act.put, List.setIfInBounds_toArray, List.set_cons_zero, List.set_cons_succ]
          refine wpAnyH_take (i := 8) (oi := ⟨some 80, _, _, _, _, _⟩) (v := _) rfl (by kernel_rfl) (by kernel_rfl) (by kernel_rfl) (fun _ _ _ h => h) (Or.inl ⟨by kernel_rfl, by intro w hSw; (try dsimp only at hSw); go_simp; try with_reducible rfl⟩) (by assumption) ?_
          simp only [Act.put, List.setIfInBounds_toArray, List.set_cons_zero, List.set_cons_succ]
          refine wpAnyH_ready (rs := [9]) (by kernel_rfl) (by simp) ?_
          refine AllReadyH.cons (o := ⟨some 13, _, _, _, _, _⟩) rfl (fun K hK => ?_) AllReadyH.nil
          go_simp
          refine hK.out _ _ ?_ (fun hHeld2 => ?_)
          · (first | (try dsimp only); go_keep | (go_split_ands; refine ⟨?_, ?_, ?_, ?_, ?_, ?_, ?_, ?_, ?_, ?_, ?_⟩ <;> first | exact keepB bx1 (by assumption) | assumption))
          clear hK K hHeld
          have hHeld := hHeld2
          clear hHeld2
          try simp only [Act.put, List.setIfInBounds_toArray, List.set_cons_zero, List.set_cons_succ]
          refine wpAnyH_ready (rs := [10]) (by kernel_rfl) (by simp) ?_
          refine AllReadyH.cons (o := ⟨none, _, _, _, _, _⟩) rfl (fun K hK => ?_) AllReadyH.nil
          go_simp
          refine hK.out _ _ ?_ (fun hHeld2 => ?_)
          · (first | (try dsimp only); go_keep | (go_split_ands; refine ⟨?_, ?_, ?_, ?_, ?_, ?_, ?_, ?_, ?_, ?_, ?_⟩ <;> first | exact keepB bx1 (by assumption) | assumption))
          clear hK K hHeld
          have hHeld := hHeld2
          clear hHeld2
          try simp only [Act.put, List.setIfInBounds_toArray, List.set_cons_zero, List.set_cons_succ]
          refine wpAnyH_take (i := 11) (oi := ⟨some 14, _, _, _, _, _⟩) (v := _) rfl (by kernel_rfl) (by kernel_rfl) (by kernel_rfl) (fun _ _ _ h => h) (Or.inl ⟨by kernel_rfl, by intro w hSw; (try dsimp only at hSw); go_simp; try with_reducible rfl⟩) (by assumption) ?_
          simp only [Act.put, List.setIfInBounds_toArray, List.set_cons_zero, List.set_cons_succ]
          refine wpAnyH_done (by kernel_rfl) ?_ _
        rotate_left 1
        focus
          go_simp
          refine hK.out _ _ ?_ (fun hHeld2 => ?_)
          · (first | (try dsimp only); go_keep | (go_split_ands; refine ⟨?_, ?_, ?_, ?_, ?_, ?_, ?_, ?_, ?_, ?_, ?_⟩ <;> first | exact keepB bx1 (by assumption) | assumption))
          clear hK K hHeld
          have hHeld := hHeld2
          clear hHeld2
          try simp only [Act.put, List.setIfInBounds_toArray, List.set_cons_zero, List.set_cons_succ]
          refine wpAnyH_ready (rs := [5]) (by kernel_rfl) (by simp) ?_
          refine AllReadyH.cons (o := ⟨some 78, _, _, _, _, _⟩) rfl (fun K hK => ?_) AllReadyH.nil
          go_simp
          go_at_call 19
          obtain ⟨wq, hwq⟩ : ∃ wq, wq = (wo.alloc (.cells #[.slice none 0 0, .int .i64 0, .int .i64 0, .int .i64 0] 32)).drew := ⟨_, rfl⟩
          have bq : Below wo.heap.size wo wq := by rw [hwq]; exact ((Below.refl _ _).alloc (Nat.le_refl _) _).trans ((Qt.one _ 1).below _)
          have hqb : MB wq wo.heap.size (.slice none 0 0) 0 0 0 := by rw [hwq]; exact heap_alloc_new wo _
          have hqa : wo.heap.size < wq.heap.size := hqb.lt
          obtain ⟨⟨d0, d1, d2, d3⟩, ⟨fd0, fd1, fd2, fd3⟩⟩ := hqb.cells
          rw [← hwq]
          clear hwq
          replace t0 := keepB bq t0; replace t1 := keepB bq t1; replace t2 := keepB bq t2; replace t3 := keepB bq t3; replace p0 := keepB bq p0; replace p1 := keepB bq p1; replace p2 := keepB bq p2; replace p3 := keepB bq p3; replace p4 := keepB bq p4; replace p5 := keepB bq p5; replace p6 := keepB bq p6
          refine (ApplyEvent_fixP lo' hi' _ E E1 a b z a b z 2 lb y0 y1 y2 y3 0 wq (HEk.out.below bq hhk) (by omega) HIN.out H64.out HAP.out).mono ?_
          rintro e x2 ⟨A5, c5, rfl, o3, bx_⟩
          replace t0 := keepB bx_ t0; replace t1 := keepB bx_ t1; replace t2 := keepB bx_ t2; replace t3 := keepB bx_ t3; replace p0 := keepB bx_ p0; replace p1 := keepB bx_ p1; replace p2 := keepB bx_ p2; replace p3 := keepB bx_ p3; replace p4 := keepB bx_ p4; replace p5 := keepB bx_ p5; replace p6 := keepB bx_ p6
          replace d0 := keepB bx_ d0; replace d1 := keepB bx_ d1; replace d2 := keepB bx_ d2; replace d3 := keepB bx_ d3
          replace fd0 := keepF bx_ (by first | (simp; done) | (simp; omega)) fd0; replace fd1 := keepF bx_ (by first | (simp; done) | (simp; omega)) fd1; replace fd2 := keepF bx_ (by first | (simp; done) | (simp; omega)) fd2; replace fd3 := keepF bx_ (by first | (simp; done) | (simp; omega)) fd3
          have hqb9 := hqb.below bx_ (by omega)
          clear hqb
          have hqb := hqb9
          clear hqb9
          have hb_ := bq.trans (bx_.mono bq.size)
          clear bx_ bq
          go_wp2_with fail
          refine hK.out _ _ ?_ (fun hHeld2 => ?_)
          · (first | (try dsimp only); go_keep | (go_split_ands; refine ⟨?_, ?_, ?_, ?_, ?_, ?_, ?_, ?_, ?_, ?_, ?_⟩ <;> first | exact keepB bx1 (by assumption) | assumption))
          clear hK K hHeld
          have hHeld := hHeld2
          clear hHeld2
          try simp only [Act.put, List.setIfInBounds_toArray, List.set_cons_zero, List.set_cons_succ]
          refine wpAnyH_take (i := 6) (oi := ⟨some 72, _, _, _, _, _⟩) (v := _) rfl (by kernel_rfl) (by kernel_rfl) (by kernel_rfl) (fun _ _ _ h => h) (Or.inl ⟨by kernel_rfl, by intro w hSw; (try dsimp only at hSw); go_simp; try with_reducible rfl⟩) (by assumption) ?_
          simp only [Act.put, List.setIfInBounds_toArray, List.set_cons_zero, List.set_cons_succ]
          refine wpAnyH_take (i := 7) (oi := ⟨some 79, _, _, _, _, _⟩) (v := _) rfl (by kernel_rfl) (by kernel_rfl) (by kernel_rfl) (fun _ _ _ h => h) (Or.inl ⟨by kernel_rfl, by intro w hSw; (try dsimp only at hSw); go_simp; try with_reducible rfl⟩) (by assumption) ?_
          simp only [Act.put, List.setIfInBounds_toArray, List.set_cons_zero, List.set_cons_succ]
          refine wpAnyH_take (i := 8) (oi := ⟨some 80, _, _, _, _, _⟩) (v := _) rfl (by kernel_rfl) (by kernel_rfl) (by kernel_rfl) (fun _ _ _ h => h) (Or.inl ⟨by kernel_rfl, by intro w hSw; (try dsimp only at hSw); go_simp; try with_reducible rfl⟩) (by assumption) ?_
          simp only [Act.put, List.setIfInBounds_toArray, List.set_cons_zero, List.set_cons_succ]
          refine wpAnyH_ready (rs := [10]) (by kernel_rfl) (by simp) ?_
          refine AllReadyH.cons (o := ⟨none, _, _, _, _, _⟩) rfl (fun K hK => ?_) AllReadyH.nil
          go_simp
          refine hK.out _ _ ?_ (fun hHeld2 => ?_)
          · (first | (try dsimp only); go_keep | (go_split_ands; refine ⟨?_, ?_, ?_, ?_, ?_, ?_, ?_, ?_, ?_, ?_, ?_⟩ <;> first | exact keepB bx1 (by assumption) | assumption))
          clear hK K hHeld
          have hHeld := hHeld2
          clear hHeld2
          try simp only [Act.put, List.setIfInBounds_toArray, List.set_cons_zero, List.set_cons_succ]
          refine wpAnyH_take (i := 11) (oi := ⟨some 14, _, _, _, _, _⟩) (v := _) rfl (by kernel_rfl) (by kernel_rfl) (by kernel_rfl) (fun _ _ _ h => h) (Or.inl ⟨by kernel_rfl, by intro w hSw; (try dsimp only at hSw); go_simp; try with_reducible rfl⟩) (by assumption) ?_
          simp only [Act.put, List.setIfInBounds_toArray, List.set_cons_zero, List.set_cons_succ]
          refine wpAnyH_done (by kernel_rfl) ?_ _
        rotate_left 1
        focus
          obtain ⟨wz, hwz⟩ : ∃ wz, wz = x2.alloc (.cells #[.slice A5 E1.length c5, .int .i64 a, .int .i64 b, .int .i64 z] 32) := ⟨_, rfl⟩
          have bz : Below x2.heap.size x2 wz := by rw [hwz]; exact (Below.refl _ _).alloc (Nat.le_refl _) _
          have hmz : MB wz x2.heap.size (.slice A5 E1.length c5) a b z := by rw [hwz]; exact heap_alloc_new x2 _
          have hbz := hb_.trans (bz.mono hb_.size)
          have hoz := o3.below bz (Nat.le_refl _)
          have hsz := bz.size
          have hsy := hb_.size
          obtain ⟨X9, hX9⟩ : ∃ X, X = x2.heap.size := ⟨_, rfl⟩
          rw [← hX9] at hmz
          rw [← hX9, ← hwz]
          exact hk9 X9 wz A5 c5 ⟨hbz, hmz, by omega, _, _, ⟨by omega, by omega⟩, hoz⟩
        focus
          obtain ⟨X9, hX9⟩ : ∃ X, X = wo.heap.size := ⟨_, rfl⟩
          obtain ⟨wz, hwz⟩ : ∃ wz, wz = (((x2.setCell ⟨wo.heap.size, 0, none⟩ (.slice A5 E1.length c5)).setCell ⟨wo.heap.size, 1, none⟩ (.int .i64 a)).setCell ⟨wo.heap.size, 2, none⟩ (.int .i64 b)).setCell ⟨wo.heap.size, 3, none⟩ (.int .i64 z) := ⟨_, rfl⟩
          have hmz : MB wz wo.heap.size (.slice A5 E1.length c5) a b z := by rw [hwz]; exact (((hqb.set0 _).set1 _).set2 _).set3 _
          have hsy := hb_.size
          have hle9 : wo.heap.size ≤ wo.heap.size := Nat.le_refl _
          have hbz : Below wo.heap.size wo wz := by rw [hwz]; exact (((hb_.setCell (p := ⟨_, _, _⟩) hle9 _).setCell (p := ⟨_, _, _⟩) hle9 _).setCell (p := ⟨_, _, _⟩) hle9 _).setCell (p := ⟨_, _, _⟩) hle9 _
          have hoz := o3.kept (w' := wz) (fun q hq _ => by rw [hwz]; simp only [World.setCell, Array.getElem?_modify, if_neg (show ¬ wo.heap.size = q by omega)])
          have hsz : wz.heap.size = x2.heap.size := by rw [hwz]; simp [World.setCell]
          rw [← hX9] at hmz
          rw [← hwz, ← hX9]
          exact hk9 X9 wz A5 c5 ⟨hbz, hmz, by omega, _, _, ⟨by omega, by omega⟩, hoz⟩
      obtain ⟨b6, hm6, hU, lo9, hi9, ⟨hlo9, hhi9⟩, ho6⟩ := hF
      have hs6 : wo.heap.size ≤ y6.heap.size := b6.size
      have HMT := Lib.hid (HM.out.below b6 hTr)
      have hneU : ¬ U = T := by omega
      have hneU' : ¬ T = U := by omega
      have gk : IntKind.i64.wrap ((k : Int) + 1) = ((k + 1 : Nat) : Int) := IntWalk.i64_in _ (by omega)
      obtain ⟨⟨u0, u1, u2, u3⟩, _⟩ := hm6.cells
      clear t0 t1 t2 t3 ft0 ft1 ft2 ft3
      obtain ⟨⟨t0, t1, t2, t3⟩, ⟨ft0, ft1, ft2, ft3⟩⟩ := HMT.out.cells
      obtain ⟨wz, hwz⟩ : ∃ wz, wz = (((y6.setCell ⟨T, 0, none⟩ (.slice A' E1.length c')).setCell ⟨T, 1, none⟩ (.int .i64 a)).setCell ⟨T, 2, none⟩ (.int .i64 b)).setCell ⟨T, 3, none⟩ (.int .i64 z) := ⟨_, rfl⟩
      have HMZ := Lib.hid (show MB wz T (.slice A' E1.length c') a b z by rw [hwz]; exact (((HMT.out.set0 _).set1 _).set2 _).set3 _)
      have hb6 := HB.out.trans (b6.mono (by omega))
      have HBZ := Lib.hid (show Below T w6 wz by rw [hwz]; exact (((hb6.setCell (p := ⟨_, _, _⟩) (Nat.le_refl _) _).setCell (p := ⟨_, _, _⟩) (Nat.le_refl _) _).setCell (p := ⟨_, _, _⟩) (Nat.le_refl _) _).setCell (p := ⟨_, _, _⟩) (Nat.le_refl _) _)
      have hsz : wz.heap.size = y6.heap.size := by rw [hwz]; simp [World.setCell]
      have HOZ := Lib.hid (show ES wz lo9 hi9 (.slice A' E1.length c') E1 from (ho6.kept (w' := wz) fun q hq _ => by rw [hwz]; simp only [World.setCell, Array.getElem?_modify, if_neg (show ¬ T = q by omega)]).es)
      have HWZ := Lib.hid hwz
      have hz1 : hi9 ≤ wz.heap.size := by omega
      have hz2 : T < wz.heap.size := by omega
      have hz3 : T < lo9 := by omega
      clear b6 hm6 ho6 hb6 hsz hwz p0 p1 p2 p3 p4 p5 p6 HTR HMT HM HEk HB HE
      go_wp2
      rw [← HWZ.out]
      go_roundw
      case rel => exact ⟨k + 1, E1, A', c', lo9, hi9, hlt, by go_num, HE1.out, HMZ.out, HOZ.out, ⟨hz1, .inl hz3⟩, HBZ.out, hz2⟩
      case measure => simp [intOf]; omega
    have hnk : ¬ (k : Int) < (n : Int) := by omega
    obtain rfl : k = n := by omega
    have hT0 := HE.out
    have hkq : k = Q.length := by omega
    have hEl : E.length = es.length := by rw [HE.out]; exact mlK_len _ _ _ _
    have hi0 : i0 < E.length := by rw [hEl]; exact HD.out.il
    have HF := Lib.hid (show ∀ j, j < i0 → (ge E j).lb ≠ lb from fun j hj => by rw [HE.out, mlK_lb HD.out]; exact HD.out.first j hj)
    have HL0 := Lib.hid (show (ge E i0).lb = lb by rw [HE.out, mlK_lb HD.out]; exact HD.out.el)
    obtain ⟨W, hW⟩ : ∃ W, W = (ge es i0).W := ⟨_, rfl⟩
    obtain ⟨L, hL⟩ : ∃ L, L = (ge es i0).L := ⟨_, rfl⟩
    obtain ⟨ds, hds⟩ : ∃ ds, ds = (ge es i0).ds := ⟨_, rfl⟩
    have HAT := Lib.hid (show (ge E i0).W = W ∧ (ge E i0).L = L ∧ (ge E i0).ds = ds ∧ (ge E i0).ps = Q by
      rw [HE.out, mlK_at HD.out, hkq, List.take_length, hW, hL, hds]; exact ⟨rfl, rfl, rfl, rfl⟩)
    have HGL := Lib.hid (show 0 < (gsL W ws xs).length by rw [hW]; exact HD.out.glen)
    have HC := Lib.hid (show C = gr (gsL W ws xs) 0 by rw [hW]; exact HD.out.hC)
    have HPT := Lib.hid (show vPat W ws C = true by rw [hW]; exact HD.out.pat)
    have HCU := Lib.hid (show vCuts W L ds Q = true by rw [hW, hL, hds]; exact HD.out.cuts)
    have HNU := Lib.hid HD.out.num
    have hrg := vReel_rng (vCuts_iff.1 HCU.out).1
    have hus := pat_used HPT.out (k := C.length) (Nat.le_refl _)
    obtain ⟨U, hU⟩ : ∃ U, U = usedL ws C C.length := ⟨_, rfl⟩
    have HU := Lib.hid hU
    rw [← hU] at hus
    obtain ⟨T9, hT9⟩ : ∃ T9, T9 = W - U := ⟨_, rfl⟩
    have HT9 := Lib.hid (show W - usedL ws C C.length = T9 by rw [hT9, hU])
    obtain ⟨PP, hPP⟩ : ∃ P, P = T9 * L := ⟨_, rfl⟩
    have HAL := Lib.hid (show W * L - areaL Q Q.length = PP by
      have h9 : areaL Q Q.length = usedL ws C C.length * (ge es i0).L := HD.out.area
      rw [h9, ← hU, ← hL, hPP, hT9, Int.sub_mul])
    have hp1 : 0 ≤ T9 * L ∧ T9 * L ≤ 60 * 400 := ⟨Int.mul_nonneg (by omega) (by omega), Int.mul_le_mul (by omega) (by omega) (by omega) (by omega)⟩
    have HPW := Lib.hid (show IntKind.i64.wrap (T9 * L) = PP by rw [hPP]; exact IntWalk.i64_in _ (by omega))
    have hvp := vPat_iff.1 HPT.out
    have hC1 : C.length ≤ 1000 := by have := vWid_iff.1 hvp.1; have := hvp.2.1; omega
    have HCB := Lib.hid (show ∀ i, i < C.length → 0 ≤ gi C i ∧ gi C i ≤ 1000 from fun i hi => by have := hvp.2.2.1 i hi; omega)
    have hL9 := HL0.out
    clear hT0 hW hL hds hU hT9 hPP hp1 hrg hus hvp hAk hL9
    go_wp2
    go_loopw [15, 16, 17] (fun i _ _ wr => ∃ j : Nat, j ≤ i0 ∧ i = .int .i64 (j : Int) ∧ Hid (Below wo.heap.size wo wr)) (fun i _ _ _ => i0 + 1 - (intOf i).toNat)
    case atStart => exact ⟨0, Nat.zero_le _, rfl, Below.refl _ _⟩
    case round =>
      obtain ⟨j, hj, rfl, HX⟩ := hrel
      obtain ⟨wx, rfl⟩ : ∃ wx : World, wx = wr := ⟨_, rfl⟩
      have bX := HX.out
      replace t0 := keepB bX t0; replace t1 := keepB bX t1; replace t2 := keepB bX t2; replace t3 := keepB bX t3
      have hsx : wo.heap.size ≤ wx.heap.size := bX.size
      clear bX
      have j0 : (0 : Int) ≤ (j : Int) := by omega
      have j1 : (j : Int) < (E.length : Int) := by omega
      have hjl : j < E.length := by omega
      obtain ⟨b9, o9, Ad, cd, Ap, cp, hA, _, _, g0, g1, g2, g3, g4, tds, tps, hcd, hcd2, hcp, hcp2⟩ := (HEk.out.below HX.out hhk).cell hjl
      subst hA
      by_cases hji : j < i0
      · obtain ⟨y, hy⟩ : ∃ y, y = (ge E j).lb := ⟨_, rfl⟩
        have hne : (y != lb) = true := bne_t (by rw [hy]; exact HF.out j hji)
        obtain ⟨W1, hW1⟩ : ∃ y, y = (ge E j).W := ⟨_, rfl⟩
        obtain ⟨L1, hL1⟩ : ∃ y, y = (ge E j).L := ⟨_, rfl⟩
        obtain ⟨d1, hd1⟩ : ∃ y, y = (ge E j).ds.length := ⟨_, rfl⟩
        obtain ⟨p1, hp1⟩ : ∃ y, y = (ge E j).ps.length := ⟨_, rfl⟩
        rw [← hy] at g0
        rw [← hW1] at g1
        rw [← hL1] at g2
        rw [← hd1] at g3
        rw [← hp1] at g4
        have gj : IntKind.i64.wrap ((j : Int) + 1) = ((j + 1 : Nat) : Int) := IntWalk.i64_in _ (by omega)
        have bl : Below wx.heap.size wx (wx.alloc (.cells #[.int .i64 y, .int .i64 W1, .int .i64 L1, .slice Ad d1 cd, .slice Ap p1 cp] 56)) := (Below.refl _ _).alloc (Nat.le_refl _) _
        have HXL := Lib.hid (HX.out.trans (bl.mono hsx))
        clear hy hW1 hL1 hd1 hp1 bl tds tps hcd hcp
        go_wp2
        go_roundw
        case rel => exact ⟨j + 1, by omega, by go_num, HXL.out⟩
        case measure => simp [intOf]; omega
      obtain rfl : j = i0 := by omega
      obtain ⟨q1, q2, q3, q4⟩ := HAT.out
      rw [HL0.out] at g0
      rw [q1] at g1
      rw [q2] at g2
      rw [q3] at g3 tds hcd
      rw [q4] at g4 tps hcp
      have HTD := Lib.hid tds
      have HTP := Lib.hid tps
      have hne : (lb != lb) = false := bne_f rfl
      have Byx := Lib.hid (By.out.trans (HX.out.mono (by omega)))
      clear q1 q2 q3 q4 tds tps hji
      go_wp2_with fail
      obtain ⟨wy, hw1⟩ : ∃ wy, wy = wx.alloc (.cells #[.int .i64 lb, .int .i64 W, .int .i64 L, .slice Ad ds.length cd, .slice Ap Q.length cp] 56) := ⟨_, rfl⟩
      have r0 : wy.cell? ⟨wx.heap.size, 0, none⟩ = some (.int .i64 lb) := by rw [hw1]; go_simp
      have r1 : wy.cell? ⟨wx.heap.size, 1, none⟩ = some (.int .i64 W) := by rw [hw1]; go_simp
      have r2 : wy.cell? ⟨wx.heap.size, 2, none⟩ = some (.int .i64 L) := by rw [hw1]; go_simp
      have r3 : wy.cell? ⟨wx.heap.size, 3, none⟩ = some (.slice Ad ds.length cd) := by rw [hw1]; go_simp
      have r4 : wy.cell? ⟨wx.heap.size, 4, none⟩ = some (.slice Ap Q.length cp) := by rw [hw1]; go_simp
      have br : Below wx.heap.size wx wy := by rw [hw1]; exact (Below.refl _ _).alloc (Nat.le_refl _) _
      have zr : wx.heap.size < wy.heap.size := by rw [hw1]; simp
      have Hr := Lib.hid (show wy.heap[wx.heap.size]? = some (.cells #[.int .i64 lb, .int .i64 W, .int .i64 L, .slice Ad ds.length cd, .slice Ap Q.length cp] 56) by rw [hw1]; exact heap_alloc_new wx _)
      rw [← hw1]
      clear hw1
      have Byy := Lib.hid (Byx.out.trans (br.mono (by omega)))
      have HTDy := Lib.hid (HTD.out.below br (by omega))
      have HTPy := Lib.hid (HTP.out.below br (by omega))
      have hsy : wx.heap.size ≤ wy.heap.size := br.size
      clear br Hr HTD HTP
      refine (GreedySets_any _ _ _ _ _ _ W ws xs wy (HWS.out wy Byy.out) (by omega) (HXS.out wy Byy.out) (by omega)).mono ?_
      rintro e wz ⟨v5, rfl, o5, b5⟩
      obtain ⟨A5, c5, rfl, hc5, hm5⟩ := o5.form
      have hG2 : 0 < (gsL W ws xs).length := HGL.out
      obtain ⟨bo, oo, Ai, ci, hA5, hbl, hbh, cg, hci, hci2, hrow⟩ := o5.rows.row (r := 0) hG2
      subst hA5
      rw [Nat.add_zero, ← HC.out] at cg
      rw [← HC.out] at hrow hci
      obtain ⟨gl, hgl⟩ : ∃ gl, gl = (gsL W ws xs).length := ⟨_, rfl⟩
      rw [← hgl] at hG2 ⊢
      have hG1 : (0 : Int) < (gl : Int) := by omega
      have HROW := Lib.hid hrow
      have Byz := Lib.hid (Byy.out.trans (b5.mono (by omega)))
      have HTDz := Lib.hid (HTDy.out.below b5 (by omega))
      have HTPz := Lib.hid (HTPy.out.below b5 (by omega))
      have hsz : wy.heap.size ≤ wz.heap.size := b5.size
      replace r0 := keepB b5 r0; replace r1 := keepB b5 r1; replace r2 := keepB b5 r2; replace r3 := keepB b5 r3; replace r4 := keepB b5 r4
      have hnn : ((Q.length : Int) == (Q.length : Int)) = true := beq_t rfl
      have hpp : (PP == PP) = true := beq_t rfl
      have hpw := HPW.out
      clear b5 o5 hrow hgl HTDy HTPy
      go_wp2
      refine wp_region_held_drew (S := fun w' => w'.cell? ⟨wx.heap.size, 0, none⟩ = some (.int .i64 lb) ∧ w'.cell? ⟨wx.heap.size, 1, none⟩ = some (.int .i64 W) ∧ w'.cell? ⟨wx.heap.size, 2, none⟩ = some (.int .i64 L) ∧ w'.cell? ⟨wx.heap.size, 3, none⟩ = some (.slice Ad ds.length cd) ∧ w'.cell? ⟨wx.heap.size, 4, none⟩ = some (.slice Ap Q.length cp)) (by kernel_rfl) ?_ (fun hHeld => ?_)
      · (first | (try dsimp only); go_keep | (go_split_ands; refine ⟨?_, ?_, ?_, ?_, ?_⟩ <;> first | exact keepB bx1 (by assumption) | assumption))
      refine wpAnyH_take (i := 0) (oi := ⟨some 108, _, _, _, _, _⟩) (v := _) rfl (by kernel_rfl) (by kernel_rfl) (by kernel_rfl) (fun _ _ _ h => h) (Or.inl ⟨by kernel_rfl, by intro w hSw; (try dsimp only at hSw); go_simp; try with_reducible rfl⟩) (by assumption) ?_
      simp only [Act.put, List.setIfInBounds_toArray, List.set_cons_zero, List.set_cons_succ]
      refine wpAnyH_take (i := 1) (oi := ⟨some 109, _, _, _, _, _⟩) (v := _) rfl (by kernel_rfl) (by kernel_rfl) (by kernel_rfl) (fun _ _ _ h => h) (Or.inl ⟨by kernel_rfl, by intro w hSw; (try dsimp only at hSw); go_simp; try with_reducible rfl⟩) (by assumption) ?_
      simp only [Act.put, List.setIfInBounds_toArray, List.set_cons_zero, List.set_cons_succ]
      refine wpAnyH_take (i := 2) (oi := ⟨some 110, _, _, _, _, _⟩) (v := _) rfl (by kernel_rfl) (by kernel_rfl) (by kernel_rfl) (fun _ _ _ h => h) (Or.inl ⟨by kernel_rfl, by intro w hSw; (try dsimp only at hSw); go_simp; try with_reducible rfl⟩) (by assumption) ?_
      simp only [Act.put, List.setIfInBounds_toArray, List.set_cons_zero, List.set_cons_succ]
      refine wpAnyH_take (i := 3) (oi := ⟨some 111, _, _, _, _, _⟩) (v := _) rfl (by kernel_rfl) (by kernel_rfl) (by kernel_rfl) (fun _ _ _ h => h) (Or.inl ⟨by kernel_rfl, by intro w hSw; (try dsimp only at hSw); go_simp; try with_reducible rfl⟩) (by assumption) ?_
      simp only [Act.put, List.setIfInBounds_toArray, List.set_cons_zero, List.set_cons_succ]
      refine wpAnyH_ready (rs := [4]) (by kernel_rfl) (by simp) ?_
      refine AllReadyH.cons (o := ⟨some 112, _, _, _, _, _⟩) rfl (fun K hK => ?_) AllReadyH.nil
      go_simp
      go_at_call 21
      refine (ltotal_any _ _ _ C _ (HROW.out.drewN 1) hC1 HCB.out).mono ?_
      rw [← HNU.out]
      rintro e x7 ⟨rfl, rfl⟩
      go_wp2_with fail
      refine hK.out _ _ ?_ (fun hHeld2 => ?_)
      · (first | (try dsimp only); go_keep | (go_split_ands; refine ⟨?_, ?_, ?_, ?_, ?_⟩ <;> first | exact keepB bx1 (by assumption) | assumption))
      clear hK K hHeld
      have hHeld := hHeld2
      clear hHeld2
      try simp only [Act.put, List.setIfInBounds_toArray, List.set_cons_zero, List.set_cons_succ]
      refine wpAnyH_take (i := 5) (oi := ⟨some 113, _, _, _, _, _⟩) (v := _) rfl (by kernel_rfl) (by kernel_rfl) (by kernel_rfl) (fun _ _ _ h => h) (Or.inl ⟨by kernel_rfl, by intro w hSw; (try dsimp only at hSw); go_simp; try with_reducible rfl⟩) (by assumption) ?_
      simp only [Act.put, List.setIfInBounds_toArray, List.set_cons_zero, List.set_cons_succ]
      refine wpAnyH_take (i := 6) (oi := ⟨some 114, _, _, _, _, _⟩) (v := _) rfl (by kernel_rfl) (by kernel_rfl) (by kernel_rfl) (fun _ _ _ h => h) (Or.inl ⟨by kernel_rfl, by intro w hSw; (try dsimp only at hSw); go_simp; try with_reducible rfl⟩) (by assumption) ?_
      simp only [Act.put, List.setIfInBounds_toArray, List.set_cons_zero, List.set_cons_succ]
      refine wpAnyH_take (i := 7) (oi := ⟨some 115, _, _, _, _, _⟩) (v := _) rfl (by kernel_rfl) (by kernel_rfl) (by kernel_rfl) (fun _ _ _ h => h) (Or.inl ⟨by kernel_rfl, by intro w hSw; (try dsimp only at hSw); go_simp; try with_reducible rfl⟩) (by assumption) ?_
      simp only [Act.put, List.setIfInBounds_toArray, List.set_cons_zero, List.set_cons_succ]
      refine wpAnyH_take (i := 8) (oi := ⟨some 116, _, _, _, _, _⟩) (v := _) rfl (by kernel_rfl) (by kernel_rfl) (by kernel_rfl) (fun _ _ _ h => h) (Or.inl ⟨by kernel_rfl, by intro w hSw; (try dsimp only at hSw); go_simp; try with_reducible rfl⟩) (by assumption) ?_
      simp only [Act.put, List.setIfInBounds_toArray, List.set_cons_zero, List.set_cons_succ]
      refine wpAnyH_take (i := 9) (oi := ⟨some 117, _, _, _, _, _⟩) (v := _) rfl (by kernel_rfl) (by kernel_rfl) (by kernel_rfl) (fun _ _ _ h => h) (Or.inl ⟨by kernel_rfl, by intro w hSw; (try dsimp only at hSw); go_simp; try with_reducible rfl⟩) (by assumption) ?_
      simp only [Act.put, List.setIfInBounds_toArray, List.set_cons_zero, List.set_cons_succ]
      refine wpAnyH_take (i := 10) (oi := ⟨some 118, _, _, _, _, _⟩) (v := _) rfl (by kernel_rfl) (by kernel_rfl) (by kernel_rfl) (fun _ _ _ h => h) (Or.inl ⟨by kernel_rfl, by intro w hSw; (try dsimp only at hSw); go_simp; try with_reducible rfl⟩) (by assumption) ?_
      simp only [Act.put, List.setIfInBounds_toArray, List.set_cons_zero, List.set_cons_succ]
      refine wpAnyH_take (i := 12) (oi := ⟨some 120, _, _, _, _, _⟩) (v := _) rfl (by kernel_rfl) (by kernel_rfl) (by kernel_rfl) (fun _ _ _ h => h) (Or.inl ⟨by kernel_rfl, by intro w hSw; (try dsimp only at hSw); go_simp; try with_reducible rfl⟩) (by assumption) ?_
      simp only [Act.put, List.setIfInBounds_toArray, List.set_cons_zero, List.set_cons_succ]
      refine wpAnyH_take (i := 13) (oi := ⟨some 121, _, _, _, _, _⟩) (v := _) rfl (by kernel_rfl) (by kernel_rfl) (by kernel_rfl) (fun _ _ _ h => h) (Or.inl ⟨by kernel_rfl, by intro w hSw; (try dsimp only at hSw); go_simp; try with_reducible rfl⟩) (by assumption) ?_
      simp only [Act.put, List.setIfInBounds_toArray, List.set_cons_zero, List.set_cons_succ]
      refine wpAnyH_take (i := 14) (oi := ⟨some 122, _, _, _, _, _⟩) (v := _) rfl (by kernel_rfl) (by kernel_rfl) (by kernel_rfl) (fun _ _ _ h => h) (Or.inl ⟨by kernel_rfl, by intro w hSw; (try dsimp only at hSw); go_simp; try with_reducible rfl⟩) (by assumption) ?_
      simp only [Act.put, List.setIfInBounds_toArray, List.set_cons_zero, List.set_cons_succ]
      refine wpAnyH_take (i := 15) (oi := ⟨some 123, _, _, _, _, _⟩) (v := _) rfl (by kernel_rfl) (by kernel_rfl) (by kernel_rfl) (fun _ _ _ h => h) (Or.inl ⟨by kernel_rfl, by intro w hSw; (try dsimp only at hSw); go_simp; try with_reducible rfl⟩) (by assumption) ?_
      simp only [Act.put, List.setIfInBounds_toArray, List.set_cons_zero, List.set_cons_succ]
      refine wpAnyH_take (i := 16) (oi := ⟨some 124, _, _, _, _, _⟩) (v := _) rfl (by kernel_rfl) (by kernel_rfl) (by kernel_rfl) (fun _ _ _ h => h) (Or.inl ⟨by kernel_rfl, by intro w hSw; (try dsimp only at hSw); go_simp; try with_reducible rfl⟩) (by assumption) ?_
      simp only [Act.put, List.setIfInBounds_toArray, List.set_cons_zero, List.set_cons_succ]
      refine wpAnyH_take (i := 18) (oi := ⟨some 126, _, _, _, _, _⟩) (v := _) rfl (by kernel_rfl) (by kernel_rfl) (by kernel_rfl) (fun _ _ _ h => h) (Or.inl ⟨by kernel_rfl, by intro w hSw; (try dsimp only at hSw); go_simp; try with_reducible rfl⟩) (by assumption) ?_
      simp only [Act.put, List.setIfInBounds_toArray, List.set_cons_zero, List.set_cons_succ]
      refine wpAnyH_take (i := 19) (oi := ⟨some 127, _, _, _, _, _⟩) (v := _) rfl (by kernel_rfl) (by kernel_rfl) (by kernel_rfl) (fun _ _ _ h => h) (Or.inl ⟨by kernel_rfl, by intro w hSw; (try dsimp only at hSw); go_simp; try with_reducible rfl⟩) (by assumption) ?_
      simp only [Act.put, List.setIfInBounds_toArray, List.set_cons_zero, List.set_cons_succ]
      refine wpAnyH_take (i := 20) (oi := ⟨some 128, _, _, _, _, _⟩) (v := _) rfl (by kernel_rfl) (by kernel_rfl) (by kernel_rfl) (fun _ _ _ h => h) (Or.inl ⟨by kernel_rfl, by intro w hSw; (try dsimp only at hSw); go_simp; try with_reducible rfl⟩) (by assumption) ?_
      simp only [Act.put, List.setIfInBounds_toArray, List.set_cons_zero, List.set_cons_succ]
      refine wpAnyH_ready (rs := [11]) (by kernel_rfl) (by simp) ?_
      refine AllReadyH.cons (o := ⟨some 119, _, _, _, _, _⟩) rfl (fun K hK => ?_) AllReadyH.nil
      go_simp
      go_at_call 22
      refine (AreaLeft_any _ _ _ _ W L _ _ ds Q _ (HTDz.out.drewN 1) (by simp; omega) (HTPz.out.drewN 1) (by simp; omega)).mono ?_
      rw [if_pos HCU.out, HAL.out]
      rintro e x8 ⟨rfl, bx1⟩
      go_wp2_with fail
      refine hK.out _ _ ?_ (fun hHeld2 => ?_)
      · (first | (try dsimp only); go_keep | (go_split_ands; refine ⟨?_, ?_, ?_, ?_, ?_⟩ <;> first | exact keepB bx1 (by assumption) | assumption))
      clear hK K hHeld
      have hHeld := hHeld2
      clear hHeld2
      try simp only [Act.put, List.setIfInBounds_toArray, List.set_cons_zero, List.set_cons_succ]
      refine wpAnyH_ready (rs := [17]) (by kernel_rfl) (by simp) ?_
      refine AllReadyH.cons (o := ⟨some 125, _, _, _, _, _⟩) rfl (fun K hK => ?_) AllReadyH.nil
      go_simp
      go_at_call 23
      refine (TrimOf_any _ _ _ _ W _ _ ws C x8 ((HWS.out wz Byz.out).below (of_drew bx1) (by omega)) (HROW.out.below (of_drew bx1) (by omega))).mono ?_
      rw [if_pos HPT.out, HT9.out]
      rintro e x9 ⟨rfl, rfl⟩
      go_wp2_with fail
      refine hK.out _ _ ?_ (fun hHeld2 => ?_)
      · (first | (try dsimp only); go_keep | (go_split_ands; refine ⟨?_, ?_, ?_, ?_, ?_⟩ <;> first | exact keepB bx1 (by assumption) | assumption))
      clear hK K hHeld
      have hHeld := hHeld2
      clear hHeld2
      try simp only [Act.put, List.setIfInBounds_toArray, List.set_cons_zero, List.set_cons_succ]
      refine wpAnyH_take (i := 21) (oi := ⟨some 129, _, _, _, _, _⟩) (v := _) rfl (by kernel_rfl) (by kernel_rfl) (by kernel_rfl) (fun _ _ _ h => h) (Or.inl ⟨by kernel_rfl, by intro w hSw; (try dsimp only at hSw); go_simp; try with_reducible rfl⟩) (by assumption) ?_
      simp only [Act.put, List.setIfInBounds_toArray, List.set_cons_zero, List.set_cons_succ]
      refine wpAnyH_take (i := 22) (oi := ⟨some 130, _, _, _, _, _⟩) (v := _) rfl (by kernel_rfl) (by kernel_rfl) (by kernel_rfl) (fun _ _ _ h => h) (Or.inl ⟨by kernel_rfl, by intro w hSw; (try dsimp only at hSw); go_simp; try with_reducible rfl⟩) (by assumption) ?_
      simp only [Act.put, List.setIfInBounds_toArray, List.set_cons_zero, List.set_cons_succ]
      refine wpAnyH_take (i := 23) (oi := ⟨some 131, _, _, _, _, _⟩) (v := _) rfl (by kernel_rfl) (by kernel_rfl) (by kernel_rfl) (fun _ _ _ h => h) (Or.inl ⟨by kernel_rfl, by intro w hSw; (try dsimp only at hSw); go_simp; try with_reducible rfl⟩) (by assumption) ?_
      simp only [Act.put, List.setIfInBounds_toArray, List.set_cons_zero, List.set_cons_succ]
      refine wpAnyH_take (i := 24) (oi := ⟨some 2, _, _, _, _, _⟩) (v := _) rfl (by kernel_rfl) (by kernel_rfl) (by kernel_rfl) (fun _ _ _ h => h) (Or.inl ⟨by kernel_rfl, by intro w hSw; (try dsimp only at hSw); go_simp; try with_reducible rfl⟩) (by assumption) ?_
      simp only [Act.put, List.setIfInBounds_toArray, List.set_cons_zero, List.set_cons_succ]
      refine wpAnyH_done (by kernel_rfl) ?_ _
      focus
        have HBF := Lib.hid (Byz.out.trans ((of_drew bx1).mono (by omega)))
        go_wp2
        go_ret
        exact ⟨rfl, HBW.out _ HBF.out⟩
end Go.Proofs.Ytkgepklapglmdaa
