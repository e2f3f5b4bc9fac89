/-
  Texts merged into one: what each function does, and plain lemmas. No condition.
-/
import Derived.Test.YtkgepklapglmdaaGreatDoorMiJ
namespace Go.Proofs.YtkgepklapglmdaaGreatDoor
open Go.RowKit
attribute [local go_sem ↓] Go.wp_at_zero Go.wp_at_succ

set_option maxRecDepth 100000 in
set_option maxHeartbeats 4000000 in
theorem cloneMill_any (lo hi : Nat) (v : Value) (es : List Ent) (a b z : Int) (w : World) (h : ES w lo hi v es) (hhi : hi ≤ w.heap.size) (hl : es.length ≤ 1000) (hs : ∀ k, k < es.length → (ge es k).ds.length ≤ 1000 ∧ (ge es k).ps.length ≤ 1000) :
    Calls Tryz.prog 45 #[.agg #[v, .int .i64 a, .int .i64 b, .int .i64 z]] w fun e w' => ∃ v', e = .returned (.agg #[v', .int .i64 a, .int .i64 b, .int .i64 z]) ∧ OwnE w' w.heap.size w'.heap.size 58 92 38 v' es ∧ Below w.heap.size w w' := by
  obtain ⟨A, c, rfl, hc, hm⟩ := h.form
  have hes : ∀ w1, Below w.heap.size w w1 → ES w1 lo hi (.slice A es.length c) es := fun w1 hb => h.below hb hhi
  have HSz := Lib.hid hs
  clear hs
  have Hs := Lib.hid (show ∃ w1, w1 = ((w.alloc (.cells #[.slice A es.length c, .int .i64 a, .int .i64 b, .int .i64 z] 25)).alloc (.cells #[.slice none 0 0, .int .i64 0, .int .i64 0, .int .i64 0] 25)) ∧ Below w.heap.size w w1 ∧ w1.cell? ⟨w.heap.size, 0, none⟩ = some (.slice A es.length c) ∧ w1.cell? ⟨w.heap.size, 1, none⟩ = some (.int .i64 a) ∧ w1.cell? ⟨w.heap.size, 2, none⟩ = some (.int .i64 b) ∧ w1.cell? ⟨w.heap.size, 3, none⟩ = some (.int .i64 z) ∧ w1.cell? ⟨w.heap.size + 1, 0, none⟩ = some (.slice none 0 0) ∧ w1.cell? ⟨w.heap.size + 1, 1, none⟩ = some (.int .i64 0) ∧ w1.cell? ⟨w.heap.size + 1, 2, none⟩ = some (.int .i64 0) ∧ w1.cell? ⟨w.heap.size + 1, 3, none⟩ = some (.int .i64 0) ∧ w1.frozen? ⟨w.heap.size + 1, 0, none⟩ = false ∧ w1.frozen? ⟨w.heap.size + 1, 1, none⟩ = false ∧ w1.frozen? ⟨w.heap.size + 1, 2, none⟩ = false ∧ w1.frozen? ⟨w.heap.size + 1, 3, none⟩ = false ∧ w.heap.size + 1 < w1.heap.size from by
    have hb : Below w.heap.size w ((w.alloc (.cells #[.slice A es.length c, .int .i64 a, .int .i64 b, .int .i64 z] 25)).alloc (.cells #[.slice none 0 0, .int .i64 0, .int .i64 0, .int .i64 0] 25)) := ((Below.refl _ _).alloc (Nat.le_refl _) _).alloc (by simp) _
    exact ⟨_, rfl, hb, by go_simp, by go_simp, by go_simp, by go_simp, by go_simp, by go_simp, by go_simp, by go_simp, by go_simp, by go_simp, by go_simp, by go_simp, by simp⟩)
  go_enter Tryz.func45, Tryz.ntmps45
  go_wp2
  obtain ⟨w1, hw1, hb0, c00, c01, c02, c03, c10, c11, c12, c13, f10, f11, f12, f13, hz⟩ := Hs.out
  have HZ := Lib.hid (show w1.heap.size = w.heap.size + 1 + 1 by rw [hw1]; simp)
  rw [← hw1]
  clear hw1 Hs
  have he1 := hes w1 hb0
  clear hes h
  obtain ⟨w3, hw3⟩ : ∃ w3, w3 = w1.alloc (.cells #[.slice none 0 0, .int .i64 a, .int .i64 b, .int .i64 z] 25) := ⟨_, rfl⟩
  have b3 : Below w1.heap.size w1 w3 := by rw [hw3]; exact (Below.refl _ _).alloc (Nat.le_refl _) _
  have q0 : w3.cell? ⟨w1.heap.size, 0, none⟩ = some (.slice none 0 0) := by rw [hw3]; go_simp
  have q1 : w3.cell? ⟨w1.heap.size, 1, none⟩ = some (.int .i64 a) := by rw [hw3]; go_simp
  have q2 : w3.cell? ⟨w1.heap.size, 2, none⟩ = some (.int .i64 b) := by rw [hw3]; go_simp
  have q3 : w3.cell? ⟨w1.heap.size, 3, none⟩ = some (.int .i64 z) := by rw [hw3]; go_simp
  have fq0 : w3.frozen? ⟨w1.heap.size, 0, none⟩ = false := by rw [hw3]; go_simp
  have HB : Hid (∃ cs, w3.heap[w1.heap.size]? = some (.cells cs 25 (0, 0))) := by
    rw [hw3]; exact ⟨_, heap_alloc_new w1 _⟩
  have hz3 : w1.heap.size < w3.heap.size := by rw [hw3]; simp
  rw [HZ.out] at q0 q1 q2 q3 fq0 HB
  rw [← hw3]
  clear hw3
  go_loopw [11] (fun i wr => ∃ (k : Nat) (u : Value), k ≤ es.length ∧ i = .int .i64 k ∧ Below w1.heap.size w1 wr ∧ OwnE wr w1.heap.size wr.heap.size 58 92 38 u (es.take k) ∧ wr.cell? ⟨w.heap.size + 1 + 1, 0, none⟩ = some u ∧ wr.cell? ⟨w.heap.size + 1 + 1, 1, none⟩ = some (.int .i64 a) ∧ wr.cell? ⟨w.heap.size + 1 + 1, 2, none⟩ = some (.int .i64 b) ∧ wr.cell? ⟨w.heap.size + 1 + 1, 3, none⟩ = some (.int .i64 z) ∧ wr.frozen? ⟨w.heap.size + 1 + 1, 0, none⟩ = false ∧ Hid (∃ cs, wr.heap[w.heap.size + 1 + 1]? = some (.cells cs 25 (0, 0)))) (fun i _ => es.length - (intOf i).toNat)
  case atStart => exact ⟨0, _, by omega, rfl, b3, by rw [List.take_zero]; exact OwnE.nil _ _ _ _ _ _, q0, q1, q2, q3, fq0, HB⟩
  case round =>
    clear q0 q1 q2 q3 fq0 HB b3
    obtain ⟨k, u, hk, rfl, bw, ho, q0, q1, q2, q3, fq0, HB⟩ := hrel
    have hzr := bw.size
    have hBz : w.heap.size + 1 + 1 < wr.heap.size := by obtain ⟨cs, hcs⟩ := HB.out; exact (Array.getElem?_eq_some_iff.1 hcs).1
    replace c00 := keepB bw c00; replace c01 := keepB bw c01; replace c02 := keepB bw c02; replace c03 := keepB bw c03; replace c10 := keepB bw c10; replace c11 := keepB bw c11; replace c12 := keepB bw c12; replace c13 := keepB bw c13
    replace f10 := keepF bw (by first | (simp; done) | (simp; omega)) f10; replace f11 := keepF bw (by first | (simp; done) | (simp; omega)) f11; replace f12 := keepF bw (by first | (simp; done) | (simp; omega)) f12; replace f13 := keepF bw (by first | (simp; done) | (simp; omega)) f13
    by_cases hlt : k < es.length
    · have her := he1.below bw (by omega)
      have h64 := her.e64 hlt
      obtain ⟨b9, o, Ad, cd, Ap, cp, rfl, hl9, hh9, e0, e1, e2, e3, e4, hd, hp, _⟩ := her.cell hlt
      have hk0 : (0 : Int) ≤ (k : Int) := by omega
      have hk1 : (k : Int) < (es.length : Int) := by omega
      have hsz := HSz.out k hlt
      obtain ⟨Au, cu, hu, hcu, hmu⟩ := ho.form
      rw [List.length_take, Nat.min_eq_left hk] at hu
      subst hu
      have Ho := Lib.hid ho
      have Hb := Lib.hid bw
      clear ho bw
      go_wp2_with fail
      obtain ⟨x, hw1⟩ : ∃ x, x = wr.alloc (.cells #[.int .i64 ((ge es k).lb), .int .i64 ((ge es k).W), .int .i64 ((ge es k).L), .slice Ad (ge es k).ds.length cd, .slice Ap (ge es k).ps.length cp] 58) := ⟨_, rfl⟩
      have d0 : x.cell? ⟨wr.heap.size, 0, none⟩ = some (.int .i64 ((ge es k).lb)) := by rw [hw1]; go_simp
      have d1 : x.cell? ⟨wr.heap.size, 1, none⟩ = some (.int .i64 ((ge es k).W)) := by rw [hw1]; go_simp
      have d2 : x.cell? ⟨wr.heap.size, 2, none⟩ = some (.int .i64 ((ge es k).L)) := by rw [hw1]; go_simp
      have d3 : x.cell? ⟨wr.heap.size, 3, none⟩ = some (.slice Ad (ge es k).ds.length cd) := by rw [hw1]; go_simp
      have d4 : x.cell? ⟨wr.heap.size, 4, none⟩ = some (.slice Ap (ge es k).ps.length cp) := by rw [hw1]; go_simp
      have bd : Below wr.heap.size wr x := by rw [hw1]; exact (Below.refl _ _).alloc (Nat.le_refl _) _
      have zd : wr.heap.size < x.heap.size := by rw [hw1]; simp
      have HZd := Lib.hid (show x.heap.size = wr.heap.size + 1 by rw [hw1]; simp)
      have fd0 : x.frozen? ⟨wr.heap.size, 0, none⟩ = false := by rw [hw1]; go_simp
      have fd1 : x.frozen? ⟨wr.heap.size, 1, none⟩ = false := by rw [hw1]; go_simp
      have fd2 : x.frozen? ⟨wr.heap.size, 2, none⟩ = false := by rw [hw1]; go_simp
      have fd3 : x.frozen? ⟨wr.heap.size, 3, none⟩ = false := by rw [hw1]; go_simp
      have fd4 : x.frozen? ⟨wr.heap.size, 4, none⟩ = false := by rw [hw1]; go_simp
      have Hd := Lib.hid (show x.heap[wr.heap.size]? = some (.cells #[.int .i64 ((ge es k).lb), .int .i64 ((ge es k).W), .int .i64 ((ge es k).L), .slice Ad (ge es k).ds.length cd, .slice Ap (ge es k).ps.length cp] 58) by rw [hw1]; exact heap_alloc_new wr _)
      rw [← hw1]
      clear hw1
      have hxz := HZd.out
      have hd2 := hd.below bd (by omega)
      have hp2 := hp.below bd (by omega)
      clear e0 e1 e2 e3 e4 hd hp Hd HZd fd0 fd1 fd2
      refine (CloneD_any lo hi _ (ge es k).ds x hd2 (by omega) (by omega)).mono ?_
      rintro e w2 ⟨v1, rfl, od1, b2⟩
      obtain ⟨A1, c1, rfl, hc1, hm1⟩ := od1.form
      rw [hxz] at od1
      have hp3 := hp2.below b2 (by omega)
      replace d0 := keepB b2 d0; replace d1 := keepB b2 d1; replace d2 := keepB b2 d2; replace d3 := keepB b2 d3; replace d4 := keepB b2 d4
      replace fd3 := keepF b2 (by first | (simp; done) | (simp; omega)) fd3; replace fd4 := keepF b2 (by first | (simp; done) | (simp; omega)) fd4
      have bx2 := bd.trans (b2.mono (by omega))
      have hz2' : wr.heap.size + 1 ≤ w2.heap.size := by have := b2.size; omega
      have Od := Lib.hid od1
      clear od1 b2 bd hd2 hp2
      go_wp2_with fail
      obtain ⟨w4, hw4⟩ : ∃ w4, w4 = w2.setCell ⟨wr.heap.size, 3, none⟩ (.slice A1 (ge es k).ds.length c1) := ⟨_, rfl⟩
      have hz4 : w4.heap.size = w2.heap.size := by rw [hw4]; simp [World.setCell]
      have b4 : Below wr.heap.size wr w4 := by rw [hw4]; exact bx2.setCell (Nat.le_refl _) _
      have k0 : w4.cell? ⟨wr.heap.size, 0, none⟩ = some (.int .i64 (ge es k).lb) := by rw [hw4]; go_simp
      have k1 : w4.cell? ⟨wr.heap.size, 1, none⟩ = some (.int .i64 (ge es k).W) := by rw [hw4]; go_simp
      have k2 : w4.cell? ⟨wr.heap.size, 2, none⟩ = some (.int .i64 (ge es k).L) := by rw [hw4]; go_simp
      have k3 : w4.cell? ⟨wr.heap.size, 3, none⟩ = some (.slice A1 (ge es k).ds.length c1) := by rw [hw4]; go_simp
      have k4 : w4.cell? ⟨wr.heap.size, 4, none⟩ = some (.slice Ap (ge es k).ps.length cp) := by rw [hw4]; go_simp
      have fk4 : w4.frozen? ⟨wr.heap.size, 4, none⟩ = false := by rw [hw4]; go_simp
      have Od4 := Lib.hid (show OwnT w4 (wr.heap.size + 1) 92 5 (.slice A1 (ge es k).ds.length c1) (ge es k).ds by rw [hw4]; exact Od.out.setBelow (Nat.lt_succ_self wr.heap.size) _)
      have hp4 : TS w4 lo hi 4 (.slice Ap (ge es k).ps.length cp) (ge es k).ps := by rw [hw4]; exact hp3.kept fun q _ hq => Below.heap_setCell _ _ _ _ (by show q ≠ wr.heap.size; omega)
      rw [← hw4]
      clear hw4 d0 d1 d2 d3 d4 fd3 fd4 bx2 Od hp3
      refine (CloneP_any lo hi _ (ge es k).ps w4 hp4 (by omega) (by omega)).mono ?_
      rintro e w5 ⟨v2, rfl, op5, b5⟩
      obtain ⟨A2, c2, rfl, hc2, hm2⟩ := op5.form
      replace k0 := keepB b5 k0; replace k1 := keepB b5 k1; replace k2 := keepB b5 k2; replace k3 := keepB b5 k3; replace k4 := keepB b5 k4
      replace fk4 := keepF b5 (by first | (simp; done) | (simp; omega)) fk4
      have by5 := b4.trans (b5.mono (by omega))
      have hz5 := b5.size
      have Od5 := Lib.hid (Od4.out.below b5)
      have Op5 := Lib.hid op5
      have Hz4 := Lib.hid hz4
      clear op5 b5 b4 Od4 hp4 hz4
      replace q0 := keepB by5 q0; replace q1 := keepB by5 q1; replace q2 := keepB by5 q2; replace q3 := keepB by5 q3
      replace fq0 := keepF by5 (by first | (simp; done) | (simp; omega)) fq0
      have hneB : ¬ wr.heap.size = w.heap.size + 1 + 1 := by omega
      have hneB2 : ¬ w.heap.size + 1 + 1 = wr.heap.size := by omega
      have HB5 := Lib.hid (block_same HB.out (by5.block _ hBz))
      have By5 := Lib.hid by5
      clear by5 HB
      go_wp2_with (at_builtin; refine halt ?roundEnd)
      case roundEnd =>
        obtain ⟨w6, hw6⟩ : ∃ w6, w6 = w5.setCell ⟨wr.heap.size, 4, none⟩ (.slice A2 (ge es k).ps.length c2) := ⟨_, rfl⟩
        have hz6 : w6.heap.size = w5.heap.size := by rw [hw6]; simp [World.setCell]
        have b6 : Below wr.heap.size wr w6 := by rw [hw6]; exact By5.out.setCell (Nat.le_refl _) _
        have Od6 := Lib.hid (show OwnT w6 wr.heap.size 92 5 (.slice A1 (ge es k).ds.length c1) (ge es k).ds by rw [hw6]; exact (Od5.out.setBelow (Nat.lt_succ_self wr.heap.size) _).base (by omega))
        have Op6 := Lib.hid (show OwnT w6 wr.heap.size 38 4 (.slice A2 (ge es k).ps.length c2) (ge es k).ps by rw [hw6]; exact (Op5.out.setBelow (by show wr.heap.size < w4.heap.size; have := Hz4.out; omega) _).base (by have := Hz4.out; omega))
        have e6 : w6.heap[w.heap.size + 1 + 1]? = w5.heap[w.heap.size + 1 + 1]? := by rw [hw6]; simp only [World.setCell, Array.getElem?_modify, if_neg hneB]
        replace q0 := cell_same e6 q0
        replace q1 := cell_same e6 q1
        replace q2 := cell_same e6 q2
        replace q3 := cell_same e6 q3
        replace fq0 := frozen_same e6 fq0
        have HB6 := block_same HB5.out e6
        have Ho6 := Lib.hid (Ho.out.below b6 (Nat.le_refl _))
        have Hb6 := Lib.hid (Hb.out.trans (b6.mono hzr))
        have h99 : wr.heap.size ≤ w6.heap.size := by have := Hz4.out; omega
        have h9 : w.heap.size + 1 + 1 < w6.heap.size := by omega
        rw [← hw6, ← hz6]
        clear hw6 k0 k1 k2 k3 k4 fk4 Od5 Op5 HB5 By5 Ho Hb b6 e6
        refine wpList_appendE SlEntry _ rfl (.tmp 26) (.tmp 28) rfl (ge es k) _ _ w1.heap.size wr.heap.size 92 38 _ (es.take k) rfl rfl Ho6.out (by decide) (by decide) h64 Od6.out Op6.out (by omega) (by omega) (by rw [List.length_take]; omega) ?_
        intro v3 w9 ho9 g9
        rw [← take_ge hlt] at ho9
        obtain ⟨cs6, hcs6⟩ := HB6
        have e9 := g9.other _ h9 (Ho6.out.apart hcs6 (by decide))
        replace q0 := cell_same e9 q0
        replace q1 := cell_same e9 q1
        replace q2 := cell_same e9 q2
        replace q3 := cell_same e9 q3
        replace fq0 := frozen_same e9 fq0
        have Hc9 := Lib.hid (e9.trans hcs6)
        have Hb9 := Lib.hid (Hb6.out.trans g9.below)
        obtain ⟨A9, c9, hv9, _⟩ := ho9.form
        rw [List.length_take, Nat.min_eq_left (show k + 1 ≤ es.length by omega)] at hv9
        subst hv9
        have Ho9 := Lib.hid ho9
        have Hz9 := Lib.hid g9.size
        clear e9 hcs6 ho9 g9 Ho6 Hb6 Od6 Op6
        have HX : ∀ u : Value, ∃ w10, w10 = w9.setCell ⟨w.heap.size + 1 + 1, 0, none⟩ u ∧ Below w1.heap.size w1 w10 ∧ OwnE w10 w1.heap.size w10.heap.size 58 92 38 (.slice A9 (k + 1) c9) (es.take (k + 1)) ∧ (∃ cs, w10.heap[w.heap.size + 1 + 1]? = some (.cells cs 25 (0, 0))) := fun u => by
          refine ⟨_, rfl, Hb9.out.setCell (p := ⟨_, _, _⟩) (by show w1.heap.size ≤ w.heap.size + 1 + 1; have := HZ.out; omega) _, ?_, block_set ⟨_, Hc9.out⟩ _ _⟩
          have := Ho9.out.setFar (p := ⟨w.heap.size + 1 + 1, 0, none⟩) Hc9.out (by decide) (by decide) (by decide) u
          simpa [World.setCell] using this
        obtain ⟨w10, hw10, z1, z2, z3⟩ := HX (.slice A9 (k + 1) c9)
        have Hw10 := Lib.hid hw10
        have Hz1 := Lib.hid z1
        have Hz2 := Lib.hid z2
        have Hz3 := Lib.hid z3
        clear hw10 z1 z2 z3 HX
        go_wp2
        go_roundw
        case rel =>
          rw [← Hw10.out]
          refine ⟨k + 1, _, by omega, by go_num, Hz1.out, Hz2.out, ?_, ?_, ?_, ?_, ?_, Hz3.out⟩
          · rw [Hw10.out]; go_simp
          · rw [Hw10.out]; go_simp
          · rw [Hw10.out]; go_simp
          · rw [Hw10.out]; go_simp
          · rw [Hw10.out]; go_simp
        case measure => simp [intOf]; omega
    · have He := Lib.hid (show k = es.length by omega)
      obtain ⟨Au, cu, hu, hcu, hmu⟩ := ho.form
      rw [List.length_take, Nat.min_eq_left hk] at hu
      subst hu
      have Ho := Lib.hid ho
      have Hb := Lib.hid (hb0.trans (bw.mono (by omega)))
      clear ho bw HB
      go_wp2
      refine bodyPost_ret (v := .agg #[.slice Au k cu, .int .i64 a, .int .i64 b, .int .i64 z]) (by simp [results, Tryz.results45, go_sem, *]) rfl ⟨_, rfl, ?_, ?_⟩
      · have key := Ho.out.kept (w' := ((((wr.setCell ⟨w.heap.size + 1, 0, none⟩ (.slice Au k cu)).setCell ⟨w.heap.size + 1, 1, none⟩ (.int .i64 a)).setCell ⟨w.heap.size + 1, 2, none⟩ (.int .i64 b)).setCell ⟨w.heap.size + 1, 3, none⟩ (.int .i64 z))) (fun g hg _ => by
          have := HZ.out
          simp only [World.setCell, Array.getElem?_modify, if_neg (show ¬ w.heap.size + 1 = g by omega)])
        rw [He.out, List.take_length] at key
        rw [He.out]
        exact key.wide (by omega) (by simp [World.setCell])
      · exact (((Hb.out.setCell (p := ⟨_, _, _⟩) (by simp) _).setCell (p := ⟨_, _, _⟩) (by simp) _).setCell (p := ⟨_, _, _⟩) (by simp) _).setCell (p := ⟨_, _, _⟩) (by simp) _
end Go.Proofs.YtkgepklapglmdaaGreatDoor

namespace Go.Proofs.YtkgepklapglmdaaGreatDoor
open Go.RowKit
attribute [local go_sem ↓] Go.wp_at_zero Go.wp_at_succ

theorem ins_lt {α : Type} {cs vs : List α} {a q : Nat} (ha : a ≤ cs.length) (hq : q < a) : (cs.take a ++ vs ++ cs.drop a)[q]? = cs[q]? := by
  rw [List.append_assoc, List.getElem?_append_left (by rw [List.length_take]; omega), List.getElem?_take, if_pos hq]
theorem ins_mid {α : Type} {cs vs : List α} {a j : Nat} (ha : a ≤ cs.length) (hj : j < vs.length) : (cs.take a ++ vs ++ cs.drop a)[a + j]? = vs[j]? := by
  have h9 : (cs.take a).length = a := by rw [List.length_take]; omega
  rw [List.append_assoc, List.getElem?_append_right (by omega), h9, Nat.add_sub_cancel_left, List.getElem?_append_left hj]
theorem ins_ge {α : Type} {cs vs : List α} {a q : Nat} (ha : a ≤ cs.length) (hq : a ≤ q) : (cs.take a ++ vs ++ cs.drop a)[q + vs.length]? = cs[q]? := by
  have h9 : (cs.take a ++ vs).length = a + vs.length := by rw [List.length_append, List.length_take]; omega
  rw [List.getElem?_append_right (by omega), h9, show q + vs.length - (a + vs.length) = q - a by omega, List.getElem?_drop, show a + (q - a) = q by omega]
theorem del_lt {α : Type} {cs : List α} {a b q : Nat} (ha : a ≤ cs.length) (hq : q < a) : (cs.take a ++ cs.drop b)[q]? = cs[q]? := by
  rw [List.getElem?_append_left (by rw [List.length_take]; omega), List.getElem?_take, if_pos hq]
theorem del_ge {α : Type} {cs : List α} {a b q : Nat} (ha : a ≤ cs.length) (hq : a ≤ q) : (cs.take a ++ cs.drop b)[q]? = cs[b + (q - a)]? := by
  have h9 : (cs.take a).length = a := by rw [List.length_take]; omega
  rw [List.getElem?_append_right (by omega), h9, List.getElem?_drop]
theorem ge_ins {es : List Ent} {f : Ent} {i : Nat} (hi : i ≤ es.length) (k : Nat) : ge (es.take i ++ f :: es.drop i) k = if k < i then ge es k else if k = i then f else ge es (k - 1) := by
  have e : es.take i ++ f :: es.drop i = es.take i ++ [f] ++ es.drop i := by rw [List.append_assoc]; rfl
  unfold ge
  rw [e, List.getD_eq_getElem?_getD]
  by_cases h1 : k < i
  · rw [if_pos h1, ins_lt hi h1, List.getD_eq_getElem?_getD]
  · rw [if_neg h1]
    by_cases h2 : k = i
    · subst h2
      rw [if_pos rfl]
      have := ins_mid (vs := [f]) (j := 0) hi (by simp)
      rw [Nat.add_zero] at this
      rw [this]; rfl
    · rw [if_neg h2]
      have := ins_ge (vs := [f]) (q := k - 1) hi (by omega)
      rw [List.length_singleton, show k - 1 + 1 = k by omega] at this
      rw [this, List.getD_eq_getElem?_getD]
theorem ge_del {es : List Ent} {i : Nat} (hi : i < es.length) (k : Nat) : ge (es.take i ++ es.drop (i + 1)) k = if k < i then ge es k else ge es (k + 1) := by
  unfold ge
  rw [List.getD_eq_getElem?_getD]
  by_cases h1 : k < i
  · rw [if_pos h1, del_lt (by omega) h1, List.getD_eq_getElem?_getD]
  · rw [if_neg h1, del_ge (by omega) (by omega), show i + 1 + (k - i) = k + 1 by omega, List.getD_eq_getElem?_getD]
theorem OwnE.cs1 {w : World} {base s tD tP : Nat} {es : List Ent} {cs : List Value} {vd vp : Nat → Value} (hl : cs.length = es.length * 5)
    (h3 : ∀ k, k < es.length → E64 (ge es k) ∧ Es5 cs k (ge es k) (vd k) (vp k) ∧ (OwnT w base tD 5 (vd k) (ge es k).ds ∧ ∀ g, (vd k).ownBlock = some g → g < s) ∧ (OwnT w base tP 4 (vp k) (ge es k).ps ∧ ∀ g, (vp k).ownBlock = some g → g < s)) : ∀ u ∈ cs, u.oneCell' = true :=
  ES.oneCell (w := w) (lo := base) (hi := s) hl fun k hk => by
    obtain ⟨a, b, c, d⟩ := h3 k hk
    exact ⟨a, vd k, vp k, b, c.1.ts_at c.2, d.1.ts_at d.2⟩
theorem InsertE_any (base c n i vb : Nat) (A : Option Addr) (cs vs : List Value) (w : World) (h : w.ownsRow base 58 5 (.slice A n c) n cs) (hi : i ≤ n) (hn : n ≤ 1000) (hnc : n ≤ c) (hv : w.heap[vb]? = some (.cells vs.toArray 58 (0, 0))) (hvl : vs.length = 5) (h1v : ∀ u ∈ vs, u.oneCell' = true) (h1 : ∀ u ∈ cs, u.oneCell' = true) (hvb : ∀ g, (Value.slice A n c).ownBlock = some g → vb ≠ g) (hb : base ≤ w.heap.size) :
    Calls Tryz.prog 85 #[.slice A n c, .int .i64 i, .slice (some ⟨vb, 0, none⟩) 1 1] w fun e w' => InsPost base i n cs vs (.slice A n c) w e w' := by
  by_cases he : i = n
  · subst he
    exact InsertE_end base c i vb A cs vs w h hn hnc hv hvl h1v hb
  · by_cases hr : n + 1 ≤ c
    · exact InsertE_in base c n i vb A cs vs w h (by omega) hn hr hv hvl h1v h1 hvb
    · exact InsertE_grow base c n i vb A cs vs w h (by omega) hn (by omega) hv hvl h1v h1 hb
theorem InsertO_any (base s i vb n c : Nat) (A : Option Addr) (es : List Ent) (f : Ent) (w : World) (h : OwnE w base s 58 92 38 (.slice A n c) es) (hi : i ≤ es.length) (hl : es.length ≤ 1000) (hf : E64 f) (hfd : f.ds = []) (hfp : f.ps = []) (hs : s ≤ vb) (hb : base ≤ s)
    (hv : w.heap[vb]? = some (.cells #[.int .i64 f.lb, .int .i64 f.W, .int .i64 f.L, .slice none 0 0, .slice none 0 0] 58 (0, 0))) :
    Calls Tryz.prog 85 #[.slice A n c, .int .i64 i, .slice (some ⟨vb, 0, none⟩) 1 1] w fun e w' => ∃ v', e = .returned v' ∧ OwnE w' base w'.heap.size 58 92 38 v' (es.take i ++ f :: es.drop i) ∧ Grew base (.slice A n c) v' w w' := by
  have hvl := (Array.getElem?_eq_some_iff.1 hv).1
  obtain ⟨A', c', hAc, hc, _⟩ := h.form
  injection hAc with _ hn e3
  subst hn; subst e3
  obtain ⟨cs, vd, vp, h1, h2, h3, h4⟩ := h
  have hcl := h1.1
  refine (InsertE_any base c es.length i vb A cs [.int .i64 f.lb, .int .i64 f.W, .int .i64 f.L, .slice none 0 0, .slice none 0 0] w h1 hi hl hc hv rfl (by simp [Value.oneCell']) (OwnE.cs1 hcl h3) (fun g hg => by have := h2 g hg; omega) (by omega)).mono ?_
  rintro e w' ⟨v', rfl, ho, hg, hbk⟩
  have hbel : Below base w w' := (Below.refl base w).grown hg (by omega) fun k hk => (h1.lt k hk).1
  have hD : 58 ≠ 92 := by decide
  have hP : 58 ≠ 38 := by decide
  have keepD : ∀ k, k < es.length → OwnT w' base 92 5 (vd k) (ge es k).ds := fun k hk =>
    (h3 k hk).2.2.1.1.keptBlock fun g hgv => hg.block g ((h3 k hk).2.2.1.1.lt g hgv).2 fun e => own_types h1 (h3 k hk).2.2.1.1.1 hD e.symm hgv
  have keepP : ∀ k, k < es.length → OwnT w' base 38 4 (vp k) (ge es k).ps := fun k hk =>
    (h3 k hk).2.2.2.1.keptBlock fun g hgv => hg.block g ((h3 k hk).2.2.2.1.lt g hgv).2 fun e => own_types h1 (h3 k hk).2.2.2.1.1 hP e.symm hgv
  have hsz := hg.size
  have hlen : (es.take i ++ f :: es.drop i).length = es.length + 1 := by simp; omega
  refine ⟨v', rfl, ⟨_, fun k => if k < i then vd k else if k = i then .slice none 0 0 else vd (k - 1), fun k => if k < i then vp k else if k = i then .slice none 0 0 else vp (k - 1), by rw [hlen]; exact ho, fun g hg' => (ho.lt g hg').2, fun k hk => ?_, fun j k hjk hk => ?_⟩, ⟨hbel, hsz, hg.block⟩⟩
  · rw [hlen] at hk
    rw [ge_ins hi]
    dsimp only
    by_cases k1 : k < i
    · simp only [if_pos k1]
      obtain ⟨a, ⟨p0, p1, p2, p3, p4⟩, b, d⟩ := h3 k (by omega)
      refine ⟨a, ⟨?_, ?_, ?_, ?_, ?_⟩, ⟨keepD k (by omega), fun g hg' => by have := b.1.lt g hg'; omega⟩, ⟨keepP k (by omega), fun g hg' => by have := d.1.lt g hg'; omega⟩⟩
      all_goals (rw [ins_lt (by omega) (by omega)]; assumption)
    · simp only [if_neg k1]
      by_cases k2 : k = i
      · subst k2
        simp only [if_true]
        refine ⟨hf, ⟨?_, ?_, ?_, ?_, ?_⟩, ⟨by rw [hfd]; exact OwnT.nil _ _ _ _, fun g hg' => by simp [Value.ownBlock] at hg'⟩, ⟨by rw [hfp]; exact OwnT.nil _ _ _ _, fun g hg' => by simp [Value.ownBlock] at hg'⟩⟩
        · have := ins_mid (cs := cs) (vs := [Value.int .i64 f.lb, .int .i64 f.W, .int .i64 f.L, .slice none 0 0, .slice none 0 0]) (a := k * 5) (j := 0) (by omega) (by simp)
          exact this
        · exact ins_mid (cs := cs) (vs := [Value.int .i64 f.lb, .int .i64 f.W, .int .i64 f.L, .slice none 0 0, .slice none 0 0]) (a := k * 5) (j := 1) (by omega) (by simp)
        · exact ins_mid (cs := cs) (vs := [Value.int .i64 f.lb, .int .i64 f.W, .int .i64 f.L, .slice none 0 0, .slice none 0 0]) (a := k * 5) (j := 2) (by omega) (by simp)
        · exact ins_mid (cs := cs) (vs := [Value.int .i64 f.lb, .int .i64 f.W, .int .i64 f.L, .slice none 0 0, .slice none 0 0]) (a := k * 5) (j := 3) (by omega) (by simp)
        · exact ins_mid (cs := cs) (vs := [Value.int .i64 f.lb, .int .i64 f.W, .int .i64 f.L, .slice none 0 0, .slice none 0 0]) (a := k * 5) (j := 4) (by omega) (by simp)
      · simp only [if_neg k2]
        obtain ⟨a, ⟨p0, p1, p2, p3, p4⟩, b, d⟩ := h3 (k - 1) (by omega)
        have hge : ∀ (j : Nat), (cs.take (i * 5) ++ [Value.int .i64 f.lb, .int .i64 f.W, .int .i64 f.L, .slice none 0 0, .slice none 0 0] ++ cs.drop (i * 5))[k * 5 + j]? = cs[(k - 1) * 5 + j]? := fun j => by
          have := ins_ge (cs := cs) (vs := [Value.int .i64 f.lb, .int .i64 f.W, .int .i64 f.L, .slice none 0 0, .slice none 0 0]) (a := i * 5) (q := (k - 1) * 5 + j) (by omega) (by omega)
          rw [show k * 5 + j = (k - 1) * 5 + j + 5 by omega]; exact this
        refine ⟨a, ⟨(hge 0).trans p0, (hge 1).trans p1, (hge 2).trans p2, (hge 3).trans p3, (hge 4).trans p4⟩, ⟨keepD _ (by omega), fun g hg' => by have := b.1.lt g hg'; omega⟩, ⟨keepP _ (by omega), fun g hg' => by have := d.1.lt g hg'; omega⟩⟩
  · rw [hlen] at hk
    dsimp only
    have hno : ∀ g, (Value.slice none 0 0).ownBlock = some g → False := fun g hg' => by simp [Value.ownBlock] at hg'
    by_cases j1 : j < i
    · simp only [if_pos j1]
      by_cases k1 : k < i
      · simp only [if_pos k1]; exact h4 j k hjk (by omega)
      · simp only [if_neg k1]
        by_cases k2 : k = i
        · simp only [if_pos k2]; exact ⟨fun g _ b => hno g b, fun g _ b => hno g b⟩
        · simp only [if_neg k2]; exact h4 j (k - 1) (by omega) (by omega)
    · simp only [if_neg j1, if_neg (show ¬ k < i by omega), if_neg (show ¬ k = i by omega)]
      by_cases j2 : j = i
      · simp only [if_pos j2]; exact ⟨fun g a _ => hno g a, fun g a _ => hno g a⟩
      · simp only [if_neg j2]; exact h4 (j - 1) (k - 1) (by omega) (by omega)
theorem DeleteO_any (base s i n c : Nat) (A : Option Addr) (es : List Ent) (w : World) (h : OwnE w base s 58 92 38 (.slice A n c) es) (hi : i < es.length) (hl : es.length ≤ 1000) (hb : base ≤ w.heap.size) :
    Calls Tryz.prog 88 #[.slice A n c, .int .i64 i, .int .i64 (i + 1)] w fun e w' => e = .returned (.slice A (n - 1) c) ∧ OwnE w' base s 58 92 38 (.slice A (n - 1) c) (es.take i ++ es.drop (i + 1)) ∧ Grew base (.slice A n c) (.slice A (n - 1) c) w w' := by
  obtain ⟨A', c', hAc, hc, _⟩ := h.form
  injection hAc with _ hn e3
  subst hn; subst e3
  obtain ⟨cs, vd, vp, h1, h2, h3, h4⟩ := h
  have hcl := h1.1
  have h1c := OwnE.cs1 hcl h3
  obtain ⟨p, hp⟩ : ∃ p, es.length = p + 1 := ⟨es.length - 1, by omega⟩
  have h1' := h1
  rw [hp] at h1'
  have hblk : (Value.slice A es.length c).ownBlock = (Value.slice A (p + 1) c).ownBlock := by rw [hp]
  rw [hp]
  refine (DeleteE_any base c p i A cs w h1' (by omega) (by omega) h1c).mono ?_
  rintro e w' ⟨rfl, ho, hg⟩
  rw [← hblk] at hg
  have hbel : Below base w w' := (Below.refl base w).grown hg hb fun k hk => (h1.lt k hk).1
  have hD : 58 ≠ 92 := by decide
  have hP : 58 ≠ 38 := by decide
  have keepD : ∀ k, k < es.length → OwnT w' base 92 5 (vd k) (ge es k).ds := fun k hk =>
    (h3 k hk).2.2.1.1.keptBlock fun g hgv => hg.block g ((h3 k hk).2.2.1.1.lt g hgv).2 fun e => own_types h1 (h3 k hk).2.2.1.1.1 hD e.symm hgv
  have keepP : ∀ k, k < es.length → OwnT w' base 38 4 (vp k) (ge es k).ps := fun k hk =>
    (h3 k hk).2.2.2.1.keptBlock fun g hgv => hg.block g ((h3 k hk).2.2.2.1.lt g hgv).2 fun e => own_types h1 (h3 k hk).2.2.2.1.1 hP e.symm hgv
  have hlen : (es.take i ++ es.drop (i + 1)).length = p := by simp; omega
  refine ⟨rfl, ⟨_, fun k => if k < i then vd k else vd (k + 1), fun k => if k < i then vp k else vp (k + 1), by rw [hlen]; exact ho, fun g hg' => h2 g (by cases A <;> exact hg'), fun k hk => ?_, fun j k hjk hk => ?_⟩, ⟨hbel, hg.size, fun k hk hne => hg.block k hk (by rw [hblk]; exact hne)⟩⟩
  · rw [hlen] at hk
    rw [ge_del hi]
    dsimp only
    by_cases k1 : k < i
    · simp only [if_pos k1]
      obtain ⟨a, ⟨p0, p1, p2, p3, p4⟩, b, d⟩ := h3 k (by omega)
      refine ⟨a, ⟨?_, ?_, ?_, ?_, ?_⟩, ⟨keepD k (by omega), b.2⟩, ⟨keepP k (by omega), d.2⟩⟩
      all_goals (rw [del_lt (by omega) (by omega)]; assumption)
    · simp only [if_neg k1]
      obtain ⟨a, ⟨p0, p1, p2, p3, p4⟩, b, d⟩ := h3 (k + 1) (by omega)
      have hge : ∀ (j : Nat), (cs.take (i * 5) ++ cs.drop ((i + 1) * 5))[k * 5 + j]? = cs[(k + 1) * 5 + j]? := fun j => by
        rw [del_ge (by omega) (by omega)]
        congr 1; omega
      refine ⟨a, ⟨(hge 0).trans p0, (hge 1).trans p1, (hge 2).trans p2, (hge 3).trans p3, (hge 4).trans p4⟩, ⟨keepD _ (by omega), b.2⟩, ⟨keepP _ (by omega), d.2⟩⟩
  · rw [hlen] at hk
    dsimp only
    by_cases j1 : j < i
    · simp only [if_pos j1]
      by_cases k1 : k < i
      · simp only [if_pos k1]; exact h4 j k hjk (by omega)
      · simp only [if_neg k1]; exact h4 j (k + 1) (by omega) (by omega)
    · simp only [if_neg j1, if_neg (show ¬ k < i by omega)]; exact h4 (j + 1) (k + 1) (by omega) (by omega)
end Go.Proofs.YtkgepklapglmdaaGreatDoor
