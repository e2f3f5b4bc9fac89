/-
  Texts merged into one: what each function does, and plain lemmas. No condition.
-/
import Derived.Test.YtkgepklapglmdaaGreatDoorMillJ
import Derived.Test.YtkgepklapglmdaaGreatDoorMillC
import Derived.Test.YtkgepklapglmdaaGreatDoorMillH
import Derived.Test.YtkgepklapglmdaaGreatDoorTxt1
import Derived.Test.YtkgepklapglmdaaGreatDoorTxtI
import Derived.Test.YtkgepklapglmdaaGreatDoorMillU
import Derived.Test.YtkgepklapglmdaaGreatDoorTxJ
namespace Go.Proofs.YtkgepklapglmdaaGreatDoor
open Go.RowKit
attribute [local go_sem ↓] Go.wp_at_zero Go.wp_at_succ

def wHeld : List UInt8 := [104, 101, 108, 100]
def wCame : List UInt8 := [99, 97, 109, 101]
def wShip : List UInt8 := [115, 104, 105, 112, 112, 101, 100]
def wPulp : List UInt8 := [112, 117, 108, 112, 101, 100]
def wNone : List UInt8 := [110, 111, 110, 101]
def wWhat : List UInt8 := [119, 104, 97, 116]
/-- the label that a line asks for, -1 if it asks for none -/
def rollsN (l : List UInt8) : Int := if Lib.hasPrefix l [114, 111, 108, 108, 115, 32] = true then nmL (Lib.trimPrefix l [114, 111, 108, 108, 115, 32]) else -1
/-- the answer to a line -/
def ansL (m : Mil) (l : List UInt8) : List UInt8 :=
  if l = wHeld then Lib.decDigits (heldL m.es).toNat else if l = wCame then Lib.decDigits m.a.toNat else if l = wShip then Lib.decDigits m.b.toNat else if l = wPulp then Lib.decDigits m.z.toNat
  else if rollsN l < 0 then wWhat else if entI m.es (rollsN l) < 0 then wNone else Lib.decDigits (ge m.es (entI m.es (rollsN l)).toNat).ps.length
theorem beqL_t {a b : List UInt8} (h : a = b) : (a == b) = true := by simp [h]
theorem beqL_f {a b : List UInt8} (h : ¬ a = b) : (a == b) = false := by simp [h]
theorem CutPrefixR_any (l : List UInt8) (s : ByteArray) (hs : s = TB l) (w : World) :
    Calls Tryz.prog 94 #[.string s, .string ⟨#[114, 111, 108, 108, 115, 32]⟩] w fun e w' => e = .returned (.tuple #[.string (TB (Lib.trimPrefix l [114, 111, 108, 108, 115, 32])), .bool (Lib.hasPrefix l [114, 111, 108, 108, 115, 32])]) ∧ w' = w := by
  subst hs
  exact Tryz.strings_CutPrefix (TB l) ⟨#[114, 111, 108, 108, 115, 32]⟩ w
set_option maxRecDepth 100000 in
set_option maxHeartbeats 4000000 in
theorem answerOf_any (B lo hi : Nat) (v : Value) (es : List Ent) (a b z : Int) (l : List UInt8) (s : ByteArray) (hs : s = TB l) (w : World) (hp : Pow B w) (h : ES w lo hi v es) (hhi : hi ≤ w.heap.size) (hv : vMill es a b z = true) (hl : l.length ≤ 4000000) :
    Calls Tryz.prog 52 #[.agg #[v, .int .i64 a, .int .i64 b, .int .i64 z], .string s] w fun e w' => e = .returned (.string (TB (ansL ⟨es, a, b, z⟩ l))) ∧ Below w.heap.size w w' := by
  obtain ⟨A, c, rfl, hc, hm⟩ := h.form
  have hes : ∀ w1, Below w.heap.size w w1 → ES w1 lo hi (.slice A es.length c) es := fun w1 hb => h.below hb hhi
  have hpw : ∀ w1, Below w.heap.size w w1 → Pow B w1 := fun w1 hb => hp.below hb
  obtain ⟨hve, hl12, ha, hb, hz, hsum⟩ := vMill_iff.1 hv
  have HV := Lib.hid hv
  have HVE := Lib.hid hve
  have HMS := Lib.hid (mill_sizes hv).2
  have hsl : s.toList = l := by rw [hs, TB_toList]
  have HS := Lib.hid hs
  obtain ⟨T, hT⟩ : ∃ T, T = ansL ⟨es, a, b, z⟩ l := ⟨_, rfl⟩
  rw [← hT]
  have HT := Lib.hid hT
  have hh0 : 0 ≤ heldL es := by have h9 := (held_rng (fun k hk => (hve k hk).1) es.length (Nat.le_refl _)).1; rwa [List.take_length] at h9
  clear hs hT hv hve
  have Hs := Lib.hid (show ∃ w1, w1 = (w.alloc (.cells #[.slice A es.length c, .int .i64 a, .int .i64 b, .int .i64 z] 25)) ∧ Below w.heap.size w w1 ∧ w1.cell? ⟨w.heap.size, 0, none⟩ = some (.slice A es.length c) ∧ w1.cell? ⟨w.heap.size, 1, none⟩ = some (.int .i64 a) ∧ w1.cell? ⟨w.heap.size, 2, none⟩ = some (.int .i64 b) ∧ w1.cell? ⟨w.heap.size, 3, none⟩ = some (.int .i64 z) ∧ w.heap.size < w1.heap.size from by
    have hb : Below w.heap.size w (w.alloc (.cells #[.slice A es.length c, .int .i64 a, .int .i64 b, .int .i64 z] 25)) := (Below.refl _ _).alloc (Nat.le_refl _) _
    exact ⟨_, rfl, hb, by go_simp, by go_simp, by go_simp, by go_simp, by simp⟩)
  by_cases e0 : l = wHeld
  · have q0 : (l == [104, 101, 108, 100]) = true := beqL_t e0
    have HA := Lib.hid (show T = Lib.decDigits (heldL es).toNat by rw [HT.out]; unfold ansL; rw [if_pos e0])
    have HAH := Lib.hid (show ahL es a b z = heldL es by unfold ahL; rw [if_pos HV.out])
    clear e0
    go_enter Tryz.func52, Tryz.ntmps52
    go_wp2_with fail
    obtain ⟨w1, hw1, hb0, c00, c01, c02, c03, hz⟩ := Hs.out
    rw [← hw1]
    clear hw1 Hs
    have hp1 := hpw w1 hb0
    have he1 := hes w1 hb0
    refine (AreaHeld_any lo hi _ es a b z w1 he1 (by omega) ⟨⟨by omega, by omega⟩, ⟨by omega, by omega⟩, ⟨by omega, by omega⟩⟩).mono ?_
    rw [HAH.out]
    rintro e w2 ⟨rfl, b2⟩
    have HB2 := Lib.hid (hb0.trans (b2.mono hb0.size))
    have hp2 := hp1.below b2
    clear b2 hb0 hes hpw
    go_wp2_with fail
    refine (Itoa_any B (heldL es) w2 hp2 (by omega) (by omega)).mono ?_
    rw [← HA.out]
    rintro e w3 ⟨rfl, b3⟩
    have HB3 := Lib.hid (HB2.out.trans (b3.mono HB2.out.size))
    clear b3
    go_wp2
    go_ret
    exact ⟨rfl, HB3.out⟩
  have q0 : (l == [104, 101, 108, 100]) = false := beqL_f e0
  by_cases e1 : l = wCame
  · have q1 : (l == [99, 97, 109, 101]) = true := beqL_t e1
    have HA := Lib.hid (show T = Lib.decDigits (a).toNat by rw [HT.out]; unfold ansL; rw [if_neg e0, if_pos e1])
    clear e0 e1
    go_enter Tryz.func52, Tryz.ntmps52
    go_wp2_with fail
    obtain ⟨w1, hw1, hb0, c00, c01, c02, c03, hz⟩ := Hs.out
    rw [← hw1]
    clear hw1 Hs
    have hp1 := hpw w1 hb0
    have HB2 := Lib.hid hb0
    clear hb0 hes hpw
    refine (Itoa_any B a w1 hp1 (by omega) (by omega)).mono ?_
    rw [← HA.out]
    rintro e w3 ⟨rfl, b3⟩
    have HB3 := Lib.hid (HB2.out.trans (b3.mono HB2.out.size))
    clear b3
    go_wp2
    go_ret
    exact ⟨rfl, HB3.out⟩
  have q1 : (l == [99, 97, 109, 101]) = false := beqL_f e1
  by_cases e2 : l = wShip
  · have q2 : (l == [115, 104, 105, 112, 112, 101, 100]) = true := beqL_t e2
    have HA := Lib.hid (show T = Lib.decDigits (b).toNat by rw [HT.out]; unfold ansL; rw [if_neg e0, if_neg e1, if_pos e2])
    clear e0 e1 e2
    go_enter Tryz.func52, Tryz.ntmps52
    go_wp2_with fail
    obtain ⟨w1, hw1, hb0, c00, c01, c02, c03, hz⟩ := Hs.out
    rw [← hw1]
    clear hw1 Hs
    have hp1 := hpw w1 hb0
    have HB2 := Lib.hid hb0
    clear hb0 hes hpw
    refine (Itoa_any B b w1 hp1 (by omega) (by omega)).mono ?_
    rw [← HA.out]
    rintro e w3 ⟨rfl, b3⟩
    have HB3 := Lib.hid (HB2.out.trans (b3.mono HB2.out.size))
    clear b3
    go_wp2
    go_ret
    exact ⟨rfl, HB3.out⟩
  have q2 : (l == [115, 104, 105, 112, 112, 101, 100]) = false := beqL_f e2
  by_cases e3 : l = wPulp
  · have q3 : (l == [112, 117, 108, 112, 101, 100]) = true := beqL_t e3
    have HA := Lib.hid (show T = Lib.decDigits (z).toNat by rw [HT.out]; unfold ansL; rw [if_neg e0, if_neg e1, if_neg e2, if_pos e3])
    clear e0 e1 e2 e3
    go_enter Tryz.func52, Tryz.ntmps52
    go_wp2_with fail
    obtain ⟨w1, hw1, hb0, c00, c01, c02, c03, hz⟩ := Hs.out
    rw [← hw1]
    clear hw1 Hs
    have hp1 := hpw w1 hb0
    have HB2 := Lib.hid hb0
    clear hb0 hes hpw
    refine (Itoa_any B z w1 hp1 (by omega) (by omega)).mono ?_
    rw [← HA.out]
    rintro e w3 ⟨rfl, b3⟩
    have HB3 := Lib.hid (HB2.out.trans (b3.mono HB2.out.size))
    clear b3
    go_wp2
    go_ret
    exact ⟨rfl, HB3.out⟩
  have q3 : (l == [112, 117, 108, 112, 101, 100]) = false := beqL_f e3
  have HA := Lib.hid (show T = if rollsN l < 0 then wWhat else if entI es (rollsN l) < 0 then wNone else Lib.decDigits (ge es (entI es (rollsN l)).toNat).ps.length by rw [HT.out]; unfold ansL; rw [if_neg e0, if_neg e1, if_neg e2, if_neg e3])
  obtain ⟨r, hr⟩ : ∃ r, r = Lib.trimPrefix l [114, 111, 108, 108, 115, 32] := ⟨_, rfl⟩
  obtain ⟨pr, hpr⟩ : ∃ p, p = Lib.hasPrefix l [114, 111, 108, 108, 115, 32] := ⟨_, rfl⟩
  have HRN := Lib.hid (show rollsN l = if pr = true then nmL r else -1 by rw [hpr, hr]; rfl)
  have hrl : r.length ≤ l.length := by rw [hr]; unfold Lib.trimPrefix; split <;> simp
  have HR := Lib.hid hr
  have HPR := Lib.hid hpr
  obtain ⟨zr, hzr⟩ : ∃ x, x = TB r := ⟨_, rfl⟩
  have HZR := Lib.hid hzr
  clear e0 e1 e2 e3 hr hpr hzr HT
  go_enter Tryz.func52, Tryz.ntmps52
  go_wp2_with fail
  obtain ⟨w1, hw1, hb0, c00, c01, c02, c03, hz⟩ := Hs.out
  rw [← hw1]
  clear hw1 Hs
  have he1 := hes w1 hb0
  have hp1 := hpw w1 hb0
  have HB1 := Lib.hid hb0
  refine (CutPrefixR_any l s HS.out w1).mono ?_
  rw [← HR.out, ← HPR.out, ← HZR.out]
  rintro e w2 ⟨rfl, rfl⟩
  clear hb0 hes hpw h
  go_wp2_with fail
  refine (parseNumber_any r zr HZR.out w2 (by omega)).mono ?_
  rintro e w3 ⟨rfl, hn⟩
  cases pr with
  | false =>
    have HX := Lib.hid (show T = wWhat by rw [HA.out, HRN.out]; rfl)
    rcases hn with ⟨_, rfl⟩ | ⟨_, rfl⟩
    all_goals go_wp2
    all_goals go_ret
    all_goals exact ⟨congrArg (fun x => Ending.returned (Value.string (TB x))) HX.out.symm, HB1.out⟩
  | true =>
    rcases hn with ⟨hn, rfl⟩ | ⟨hn, rfl⟩
    · have HX := Lib.hid (show T = wWhat by rw [HA.out, HRN.out, if_pos rfl, if_pos hn])
      clear hn
      go_wp2
      go_ret
      exact ⟨congrArg (fun x => Ending.returned (Value.string (TB x))) HX.out.symm, HB1.out⟩
    · obtain ⟨n, hnn⟩ : ∃ n, n = nmL r := ⟨_, rfl⟩
      have HX := Lib.hid (show T = if entI es n < 0 then wNone else Lib.decDigits (ge es (entI es n).toNat).ps.length by rw [HA.out, HRN.out, if_pos rfl, if_neg (by omega), hnn])
      rw [← hnn]
      rw [← hnn] at hn
      clear hnn
      go_wp2_with fail
      refine (iEntryOf_any lo hi _ es a b z n w2 he1 (by have := HB1.out.size; omega)).mono ?_
      rintro e w4 ⟨rfl, b4⟩
      replace c00 := keepB b4 c00; replace c01 := keepB b4 c01; replace c02 := keepB b4 c02; replace c03 := keepB b4 c03
      have he4 := he1.below b4 (by have := HB1.out.size; omega)
      have hp4 := hp1.below b4
      have HB4 := Lib.hid (HB1.out.trans (b4.mono HB1.out.size))
      obtain ⟨ix, hix⟩ : ∃ x, x = entI es n := ⟨_, rfl⟩
      have HIR := Lib.hid (entI_rng es n)
      rw [← hix] at HX HIR ⊢
      clear b4 hix
      by_cases hneg : ix < 0
      · have HY := Lib.hid (show T = wNone by rw [HX.out, if_pos hneg])
        go_wp2
        go_ret
        exact ⟨congrArg (fun x => Ending.returned (Value.string (TB x))) HY.out.symm, HB4.out⟩
      · obtain ⟨k, rfl⟩ := Int.eq_ofNat_of_zero_le (show 0 ≤ ix by omega)
        have hk : k < es.length := by rcases HIR.out with h9 | ⟨i, h9, h8⟩ <;> omega
        have HY := Lib.hid (show T = Lib.decDigits (ge es k).ps.length by rw [HX.out, if_neg hneg]; rfl)
        have hps := (HMS.out k hk).2
        obtain ⟨b9, o9, Ad, cd, Ap, cp, rfl, _, _, g0, g1, g2, g3, g4, _⟩ := he4.cell hk
        have hk0 : (0 : Int) ≤ (k : Int) := by omega
        have hk1 : (k : Int) < (es.length : Int) := by omega
        obtain ⟨M, hM⟩ : ∃ M, M = (ge es k).ps.length := ⟨_, rfl⟩
        rw [← hM] at g4 HY hps
        clear hM
        go_wp2_with fail
        refine (Itoa_any B (M : Int) w4 hp4 (by omega) (by omega)).mono ?_
        rw [show ((M : Int)).toNat = M from rfl, ← HY.out]
        rintro e w5 ⟨rfl, b5⟩
        have HB5 := Lib.hid (HB4.out.trans (b5.mono HB4.out.size))
        clear b5
        go_wp2
        go_ret
        exact ⟨rfl, HB5.out⟩
theorem len2A {α : Type} {l : List α} (h : l.length = 2) : ∃ x y, l = [x, y] := by
  match l, h with
  | [x, y], _ => exact ⟨x, y, rfl⟩
theorem splitC_lineA (c : UInt8) : ∀ (x cur r : List UInt8), (∀ b ∈ x, b ≠ c) → splitC c cur (x ++ c :: r) = (cur ++ x) :: splitC c [] r
  | [], cur, r, _ => by simp [splitC]
  | b :: t, cur, r, h => by
    rw [List.cons_append, splitC, if_neg (h b (by simp)), splitC_lineA c t (cur ++ [b]) r fun y hy => h y (by simp [hy])]
    simp
theorem cut32 (l : List UInt8) : (∀ b ∈ l, b ≠ 32) ∨ ∃ x r, l = x ++ 32 :: r ∧ ∀ b ∈ x, b ≠ 32 := by
  by_cases h : (32 : UInt8) ∈ l
  · obtain ⟨x, r, rfl, hx⟩ := List.eq_append_cons_of_mem h
    exact .inr ⟨x, r, rfl, fun b hb e => hx (e ▸ hb)⟩
  · exact .inl fun b hb e => h (e ▸ hb)
def wRolls : List UInt8 := [114, 111, 108, 108, 115]
theorem rolls_two {l x y : List UInt8} (h : splitC 32 [] l = [x, y]) : l = x ++ 32 :: y := by
  rcases cut32 l with h1 | ⟨x', r, rfl, hx⟩
  · rw [splitC_take 32 l [] h1] at h; simp at h
  · rw [splitC_lineA 32 x' [] r hx, List.nil_append] at h
    injection h with h2 h3
    rcases cut32 r with h4 | ⟨x2, r2, rfl, hx2⟩
    · rw [splitC_take 32 r [] h4, List.nil_append] at h3
      injection h3 with h5
      rw [h2, h5]
    · rw [splitC_lineA 32 x2 [] r2 hx2] at h3
      injection h3 with _ h5
      exact absurd h5 (splitC_ne _ _ _)
theorem rolls_yes {l y : List UInt8} (h : splitC 32 [] l = [wRolls, y]) : rollsN l = nmL y := by
  rw [rolls_two h]
  unfold rollsN
  rw [if_pos (by unfold Lib.hasPrefix wRolls; simp [List.isPrefixOf])]
  unfold Lib.trimPrefix
  rw [if_pos (by unfold Lib.hasPrefix wRolls; simp [List.isPrefixOf])]
  rfl
theorem nmL_32 {r : List UInt8} (h : 0 ≤ nmL r) : ∀ b ∈ r, b ≠ 32 := fun b hb e => by
  have hd : r.all dgt = true := by
    by_cases hc : 1 ≤ r.length ∧ r.length ≤ 6 ∧ ¬ (1 < r.length ∧ r.headD 0 = 48) ∧ r.all dgt = true
    · exact hc.2.2.2
    · rw [nmL_no hc] at h; omega
  have h2 := dgt_iff.1 (List.all_eq_true.1 hd b hb)
  subst e
  have : (32 : UInt8).toNat = 32 := rfl
  omega
theorem rolls_is {l : List UInt8} (h : 0 ≤ rollsN l) : ∃ y, splitC 32 [] l = [wRolls, y] := by
  unfold rollsN at h
  by_cases hp : Lib.hasPrefix l [114, 111, 108, 108, 115, 32] = true
  · rw [if_pos hp] at h
    unfold Lib.trimPrefix at h
    rw [if_pos hp] at h
    unfold Lib.hasPrefix at hp
    obtain ⟨r, rfl⟩ := List.isPrefixOf_iff_prefix.1 hp
    refine ⟨r, ?_⟩
    have h3 : ([114, 111, 108, 108, 115, 32] ++ r : List UInt8).drop [114, 111, 108, 108, 115, (32 : UInt8)].length = r := List.drop_left
    rw [h3] at h
    have e : ([114, 111, 108, 108, 115, 32] ++ r : List UInt8) = wRolls ++ 32 :: r := by unfold wRolls; simp
    rw [e, splitC_lineA 32 wRolls [] r (by unfold wRolls; decide), splitC_take 32 r [] (nmL_32 h)]
    rfl
  · rw [if_neg hp] at h; omega
set_option maxRecDepth 100000 in
set_option maxHeartbeats 8000000 in
theorem answer_any (lo hi : Nat) (v : Value) (es : List Ent) (a b z : Int) (l : List UInt8) (s : ByteArray) (hs : s = TB l) (w : World) (h : ES w lo hi v es) (hhi : hi ≤ w.heap.size) (hv : vMill es a b z = true) (hl : l.length ≤ 4000000) :
    Calls Tryz.prog 51 #[.agg #[v, .int .i64 a, .int .i64 b, .int .i64 z], .string s] w fun e w' => e = .returned (.string (TB (ansL ⟨es, a, b, z⟩ l))) ∧ Below w.heap.size w w' := by
  obtain ⟨A, c, rfl, hc, hm⟩ := h.form
  have hes : ∀ w1, Below w.heap.size w w1 → ES w1 lo hi (.slice A es.length c) es := fun w1 hb => h.below hb hhi
  obtain ⟨hve, hl12, ha, hb, hz, hsum⟩ := vMill_iff.1 hv
  have HVE := Lib.hid (fun k hk => (hve k hk).1)
  have HMS := Lib.hid (mill_sizes hv).2
  have hsl : s.toList = l := by rw [hs, TB_toList]
  have HS := Lib.hid hs
  obtain ⟨T, hT⟩ : ∃ T, T = ansL ⟨es, a, b, z⟩ l := ⟨_, rfl⟩
  rw [← hT]
  have HT := Lib.hid hT
  have hh0 : 0 ≤ heldL es := by have h9 := (held_rng (fun k hk => (hve k hk).1) es.length (Nat.le_refl _)).1; rwa [List.take_length] at h9
  clear hs hT hv hve h
  obtain ⟨an, rfl⟩ := Int.eq_ofNat_of_zero_le ha.1
  obtain ⟨bn, rfl⟩ := Int.eq_ofNat_of_zero_le hb.1
  obtain ⟨zn, rfl⟩ := Int.eq_ofNat_of_zero_le hz.1
  obtain ⟨hn, hhn⟩ := Int.eq_ofNat_of_zero_le hh0
  have HHN := Lib.hid hhn
  have hhs : hn ≤ 900000 := by omega
  have hzs : zn ≤ 900000 ∧ bn ≤ 900000 ∧ an ≤ 900000 := by omega
  clear hhn hh0 hsum ha hb hz
  have Hs := Lib.hid (show ∃ w1, w1 = (w.alloc (.cells #[.slice A es.length c, .int .i64 an, .int .i64 bn, .int .i64 zn] 25)) ∧ Below w.heap.size w w1 ∧ w1.cell? ⟨w.heap.size, 0, none⟩ = some (.slice A es.length c) ∧ w1.cell? ⟨w.heap.size, 1, none⟩ = some (.int .i64 an) ∧ w1.cell? ⟨w.heap.size, 2, none⟩ = some (.int .i64 bn) ∧ w1.cell? ⟨w.heap.size, 3, none⟩ = some (.int .i64 zn) ∧ w.heap.size < w1.heap.size from by
    have hb : Below w.heap.size w (w.alloc (.cells #[.slice A es.length c, .int .i64 an, .int .i64 bn, .int .i64 zn] 25)) := (Below.refl _ _).alloc (Nat.le_refl _) _
    exact ⟨_, rfl, hb, by go_simp, by go_simp, by go_simp, by go_simp, by simp⟩)
  go_enter Tryz.func51, Tryz.ntmps51
  go_wp2_with fail
  obtain ⟨w1, hw1, hb0, c00, c01, c02, c03, hz⟩ := Hs.out
  rw [← hw1]
  clear hw1 Hs
  have he1 := hes w1 hb0
  have hw1s : w.heap.size ≤ w1.heap.size := hb0.size
  refine (splitAt_any 32 32 rfl l s HS.out w1 (by omega)).mono ?_
  rintro e w2 ⟨vs, rfl, ho, b2⟩
  replace c00 := keepB b2 c00; replace c01 := keepB b2 c01; replace c02 := keepB b2 c02; replace c03 := keepB b2 c03
  have he2 := he1.below b2 (by omega)
  have HB2 := Lib.hid (hb0.trans (b2.mono (by omega)))
  have hw2s : w1.heap.size ≤ w2.heap.size := b2.size
  obtain ⟨As, cs, rfl, hcs, hcs2⟩ := ho.form
  have HO := Lib.hid ho.strs
  obtain ⟨W, hW⟩ : ∃ W, W = splitC 32 [] l := ⟨_, rfl⟩
  rw [← hW] at HO hcs ⊢
  have HW := Lib.hid hW
  clear b2 ho hb0 hes he1 hW
  have HWL := Lib.hid (show W.length ≤ l.length + 1 by rw [HW.out, splitC_len]; have : l.count 32 ≤ l.length := List.count_le_length; omega)
  have HML := Lib.hid (show ∀ x ∈ W, x.length ≤ l.length from fun x hx => by rw [HW.out] at hx; have := splitC_mem 32 l [] x hx; simpa using this)
  by_cases hask : ∃ y, W = [wRolls, y] ∧ 0 ≤ nmL y
  · obtain ⟨y, rfl, hy⟩ := hask
    have HRN := Lib.hid (rolls_yes HW.out.symm)
    have HX := Lib.hid (show T = if entI es (nmL y) < 0 then wNone else Lib.decDigits (ge es (entI es (nmL y)).toNat).ps.length by
      have h9 := HT.out
      have hne : ∀ u, splitC 32 [] u = [u] → ¬ l = u := fun u hu e => by have h8 := HW.out; rw [e, hu] at h8; cases h8
      unfold ansL at h9
      rw [if_neg (hne wHeld (by decide)), if_neg (hne wCame (by decide)), if_neg (hne wShip (by decide)), if_neg (hne wPulp (by decide)), HRN.out, if_neg (by omega)] at h9
      exact h9)
    have hyl := HML.out y (by simp)
    obtain ⟨bs, os, hAs, hbs1, hbs2, d0⟩ := HO.out.cell (k := 0) (by simp)
    subst hAs
    have d1 := HO.out.cell' (k := 1) (by simp)
    replace d0 : w2.cell? ⟨bs, os, none⟩ = some (.string (TB wRolls)) := d0
    replace d1 : w2.cell? ⟨bs, os + 1, none⟩ = some (.string (TB y)) := d1
    obtain ⟨zx, hzx⟩ : ∃ z, z = TB wRolls := ⟨_, rfl⟩
    have hzl : zx.toList = [114, 111, 108, 108, 115] := by rw [hzx, TB_toList]; rfl
    rw [← hzx] at d0
    obtain ⟨zy, hzy⟩ : ∃ z, z = TB y := ⟨_, rfl⟩
    have HZY := Lib.hid hzy
    rw [← hzy] at d1
    obtain ⟨n, hn⟩ : ∃ n, n = nmL y := ⟨_, rfl⟩
    have HNN := Lib.hid hn
    have HIR := Lib.hid (entI_rng es n)
    rw [← hn] at hy HX
    replace hcs : 2 ≤ cs := hcs
    show _
    clear hzx hzy hn HO HML HWL HW HRN
    go_wp2_with fail
    refine (readNumber_any y zy HZY.out w2 (by omega)).mono ?_
    rw [← HNN.out]
    rintro e w3 ⟨rfl, rfl⟩
    go_wp2
    refine wp_region_held_drew (S := fun w' => w'.cell? ⟨w.heap.size, 0, none⟩ = some (.slice A es.length c) ∧ w'.cell? ⟨w.heap.size, 1, none⟩ = some (.int .i64 an) ∧ w'.cell? ⟨w.heap.size, 2, none⟩ = some (.int .i64 bn) ∧ w'.cell? ⟨w.heap.size, 3, none⟩ = some (.int .i64 zn) ∧ w'.cell? ⟨bs, os + 1, none⟩ = some (.string zy)) (by kernel_rfl) ?_ (fun hHeld => ?_)
    · (first | (try dsimp only); go_keep | (go_split_ands; refine ⟨?_, ?_, ?_, ?_, ?_⟩ <;> first | exact keepB bx1 (by assumption) | assumption))
    refine wpAnyH_take (i := 0) (oi := ⟨some 25, _, _, _, _, _⟩) (v := _) rfl (by kernel_rfl) (by kernel_rfl) (by kernel_rfl) (fun _ _ _ h => h) (Or.inl ⟨by kernel_rfl, by intro w hSw; (try dsimp only at hSw); go_simp; try with_reducible rfl⟩) (by assumption) ?_
    simp only [Act.put, List.setIfInBounds_toArray, List.set_cons_zero, List.set_cons_succ]
    refine wpAnyH_take (i := 1) (oi := ⟨some 26, _, _, _, _, _⟩) (v := _) rfl (by kernel_rfl) (by kernel_rfl) (by kernel_rfl) (fun _ _ _ h => h) (Or.inl ⟨by kernel_rfl, by intro w hSw; (try dsimp only at hSw); go_simp; try with_reducible rfl⟩) (by assumption) ?_
    simp only [Act.put, List.setIfInBounds_toArray, List.set_cons_zero, List.set_cons_succ]
    refine wpAnyH_take (i := 2) (oi := ⟨some 27, _, _, _, _, _⟩) (v := _) rfl (by kernel_rfl) (by kernel_rfl) (by kernel_rfl) (fun _ _ _ h => h) (Or.inl ⟨by kernel_rfl, by intro w hSw; (try dsimp only at hSw); go_simp; try with_reducible rfl⟩) (by assumption) ?_
    simp only [Act.put, List.setIfInBounds_toArray, List.set_cons_zero, List.set_cons_succ]
    refine wpAnyH_take (i := 3) (oi := ⟨some 28, _, _, _, _, _⟩) (v := _) rfl (by kernel_rfl) (by kernel_rfl) (by kernel_rfl) (fun _ _ _ h => h) (Or.inl ⟨by kernel_rfl, by intro w hSw; (try dsimp only at hSw); go_simp; try with_reducible rfl⟩) (by assumption) ?_
    simp only [Act.put, List.setIfInBounds_toArray, List.set_cons_zero, List.set_cons_succ]
    refine wpAnyH_ready (rs := [4]) (by kernel_rfl) (by simp) ?_
    refine AllReadyH.cons (o := ⟨some 29, _, _, _, _, _⟩) rfl (fun K hK => ?_) AllReadyH.nil
    go_simp
    go_at_call 92
    refine (readNumber_any y zy HZY.out _ (by omega)).mono ?_
    rw [← HNN.out]
    rintro e x1 ⟨rfl, rfl⟩
    go_wp2_with fail
    refine hK.out _ _ ?_ (fun hHeld2 => ?_)
    · (first | (try dsimp only); go_keep | (go_split_ands; refine ⟨?_, ?_, ?_, ?_, ?_⟩ <;> first | exact keepB bx1 (by assumption) | assumption))
    clear hK K hHeld
    have hHeld := hHeld2
    clear hHeld2
    try simp only [Act.put, List.setIfInBounds_toArray, List.set_cons_zero, List.set_cons_succ]
    refine wpAnyH_ready (rs := [5]) (by kernel_rfl) (by simp) ?_
    refine AllReadyH.cons (o := ⟨some 30, _, _, _, _, _⟩) rfl (fun K hK => ?_) AllReadyH.nil
    go_simp
    go_at_call 34
    refine (entryOf_any lo hi _ es an bn zn n w2.drew (he2.kept fun _ _ _ => rfl) (by show hi ≤ w2.heap.size; omega)).mono ?_
    rintro e x1 ⟨rfl, bx1⟩
    have HBX := Lib.hid bx1
    go_wp2_with fail
    refine hK.out _ _ ?_ (fun hHeld2 => ?_)
    · (first | (try dsimp only); go_keep | (go_split_ands; refine ⟨?_, ?_, ?_, ?_, ?_⟩ <;> first | exact keepB bx1 (by assumption) | assumption))
    clear hK K hHeld
    have hHeld := hHeld2
    clear hHeld2
    try simp only [Act.put, List.setIfInBounds_toArray, List.set_cons_zero, List.set_cons_succ]
    refine wpAnyH_take (i := 6) (oi := ⟨some 6, _, _, _, _, _⟩) (v := _) rfl (by kernel_rfl) (by kernel_rfl) (by kernel_rfl) (fun _ _ _ h => h) (Or.inl ⟨by kernel_rfl, by intro w hSw; (try dsimp only at hSw); go_simp; try with_reducible rfl⟩) (by assumption) ?_
    simp only [Act.put, List.setIfInBounds_toArray, List.set_cons_zero, List.set_cons_succ]
    refine wpAnyH_done (by kernel_rfl) ?_ _
    focus
      obtain ⟨g0, g1, g2, g3, _⟩ := hHeld
      have HB4 := Lib.hid (HB2.out.trans ((of_drew HBX.out).mono (by omega)))
      have he4 := he2.below (of_drew HBX.out) (by omega)
      obtain ⟨ix, hix⟩ : ∃ x, x = entI es n := ⟨_, rfl⟩
      rw [← hix] at HX HIR ⊢
      clear hix c00 c01 c02 c03 HBX d0 d1
      by_cases hneg : ix < 0
      · have HY := Lib.hid (show T = wNone by rw [HX.out, if_pos hneg])
        go_wp2
        go_ret
        exact ⟨congrArg (fun x => Ending.returned (Value.string (TB x))) HY.out.symm, HB4.out⟩
      · obtain ⟨k, rfl⟩ := Int.eq_ofNat_of_zero_le (show 0 ≤ ix by omega)
        have hk : k < es.length := by rcases HIR.out with h9 | ⟨i, h9, h8⟩ <;> omega
        have HY := Lib.hid (show T = Lib.decDigits (ge es k).ps.length by rw [HX.out, if_neg hneg]; rfl)
        have hps := (HMS.out k hk).2
        obtain ⟨b9, o9, Ad, cd, Ap, cp, rfl, _, _, j0, j1, j2, j3, j4, _⟩ := he4.cell hk
        have hk0 : (0 : Int) ≤ (k : Int) := by omega
        have hk1 : (k : Int) < (es.length : Int) := by omega
        obtain ⟨M, hM⟩ : ∃ M, M = (ge es k).ps.length := ⟨_, rfl⟩
        rw [← hM] at j4 HY hps
        clear hM
        go_wp2_with fail
        refine (number_any M M x1 (Nat.le_refl _) (by omega)).mono ?_
        rw [← HY.out]
        rintro e w5 ⟨rfl, rfl⟩
        go_wp2
        go_ret
        exact ⟨rfl, HB4.out⟩
  have HN := Lib.hid (show rollsN l < 0 by
    refine Int.not_le.1 fun h9 => ?_
    obtain ⟨y, hy⟩ := rolls_is h9
    exact hask ⟨y, by rw [HW.out]; exact hy, by rw [← rolls_yes hy]; exact h9⟩)
  have hway : ((W.length : Int) == 2) = false ∨ ∃ x y, W = [x, y] ∧ (¬ x = wRolls ∨ (x = wRolls ∧ nmL y < 0)) := by
    by_cases h2 : W.length = 2
    · obtain ⟨x, y, hxy⟩ := len2A h2
      by_cases hx : x = wRolls
      · by_cases hy : 0 ≤ nmL y
        · exact absurd ⟨y, by rw [hxy, hx], hy⟩ hask
        · exact .inr ⟨x, y, hxy, .inr ⟨hx, by omega⟩⟩
      · exact .inr ⟨x, y, hxy, .inl hx⟩
    · exact .inl (beq_f (by omega))
  clear hask

  rcases hway with hw | ⟨x, y, rfl, hxy⟩
  · have hWs : W.length ≤ 4000001 := by have := HWL.out; omega
    clear HO HML HWL
    by_cases e0 : l = wHeld
    · have q0 : (l == [104, 101, 108, 100]) = true := beqL_t e0
      have HA := Lib.hid (show T = Lib.decDigits hn by rw [HT.out]; unfold ansL; rw [if_pos e0]; first | rfl | (rw [HHN.out]; rfl))
      clear e0
      go_wp2_with fail
      refine (held_any lo hi _ es w2 he2 (by omega) hl12 HVE.out).mono ?_
      rw [HHN.out]
      rintro e w3 ⟨rfl, b3⟩
      have HB3 := Lib.hid (HB2.out.trans (b3.mono HB2.out.size))
      clear b3
      go_wp2_with fail
      refine (number_any hn hn w3 (Nat.le_refl _) (by omega)).mono ?_
      rw [← HA.out]
      rintro e w4 ⟨rfl, rfl⟩
      go_wp2
      go_ret
      exact ⟨rfl, HB3.out⟩
    have q0 : (l == [104, 101, 108, 100]) = false := beqL_f e0
    by_cases e1 : l = wCame
    · have q1 : (l == [99, 97, 109, 101]) = true := beqL_t e1
      have HA := Lib.hid (show T = Lib.decDigits an by rw [HT.out]; unfold ansL; rw [if_neg e0, if_pos e1]; first | rfl | (rw [HHN.out]; rfl))
      clear e0 e1
      go_wp2_with fail
      have HB3 := HB2
      refine (number_any an an w2 (Nat.le_refl _) (by omega)).mono ?_
      rw [← HA.out]
      rintro e w4 ⟨rfl, rfl⟩
      go_wp2
      go_ret
      exact ⟨rfl, HB3.out⟩
    have q1 : (l == [99, 97, 109, 101]) = false := beqL_f e1
    by_cases e2 : l = wShip
    · have q2 : (l == [115, 104, 105, 112, 112, 101, 100]) = true := beqL_t e2
      have HA := Lib.hid (show T = Lib.decDigits bn by rw [HT.out]; unfold ansL; rw [if_neg e0, if_neg e1, if_pos e2]; first | rfl | (rw [HHN.out]; rfl))
      clear e0 e1 e2
      go_wp2_with fail
      have HB3 := HB2
      refine (number_any bn bn w2 (Nat.le_refl _) (by omega)).mono ?_
      rw [← HA.out]
      rintro e w4 ⟨rfl, rfl⟩
      go_wp2
      go_ret
      exact ⟨rfl, HB3.out⟩
    have q2 : (l == [115, 104, 105, 112, 112, 101, 100]) = false := beqL_f e2
    by_cases e3 : l = wPulp
    · have q3 : (l == [112, 117, 108, 112, 101, 100]) = true := beqL_t e3
      have HA := Lib.hid (show T = Lib.decDigits zn by rw [HT.out]; unfold ansL; rw [if_neg e0, if_neg e1, if_neg e2, if_pos e3]; first | rfl | (rw [HHN.out]; rfl))
      clear e0 e1 e2 e3
      go_wp2_with fail
      have HB3 := HB2
      refine (number_any zn zn w2 (Nat.le_refl _) (by omega)).mono ?_
      rw [← HA.out]
      rintro e w4 ⟨rfl, rfl⟩
      go_wp2
      go_ret
      exact ⟨rfl, HB3.out⟩
    have q3 : (l == [112, 117, 108, 112, 101, 100]) = false := beqL_f e3
    have HX := Lib.hid (show T = wWhat by rw [HT.out]; unfold ansL; rw [if_neg e0, if_neg e1, if_neg e2, if_neg e3, if_pos HN.out])
    clear e0 e1 e2 e3
    go_wp2
    go_ret
    exact ⟨congrArg (fun x => Ending.returned (Value.string (TB x))) HX.out.symm, HB2.out⟩
  have hyl := HML.out y (by simp)
  obtain ⟨bs, os, hAs, hbs1, hbs2, d0⟩ := HO.out.cell (k := 0) (by simp)
  subst hAs
  have d1 := HO.out.cell' (k := 1) (by simp)
  replace d0 : w2.cell? ⟨bs, os, none⟩ = some (.string (TB x)) := d0
  replace d1 : w2.cell? ⟨bs, os + 1, none⟩ = some (.string (TB y)) := d1
  obtain ⟨zx, hzx⟩ : ∃ z, z = TB x := ⟨_, rfl⟩
  have hzl : zx.toList = x := by rw [hzx, TB_toList]
  rw [← hzx] at d0
  obtain ⟨zy, hzy⟩ : ∃ z, z = TB y := ⟨_, rfl⟩
  have HZY := Lib.hid hzy
  rw [← hzy] at d1
  obtain ⟨n, hn9⟩ : ∃ n, n = nmL y := ⟨_, rfl⟩
  have HNN := Lib.hid hn9
  rw [← hn9] at hxy
  replace hcs : 2 ≤ cs := hcs
  clear hzx hzy hn9 HO HML HWL
  rcases hxy with hx | ⟨hx, hy⟩
  · have qx : (x == [114, 111, 108, 108, 115]) = false := beqL_f hx
    clear hx
    by_cases e0 : l = wHeld
    · have q0 : (l == [104, 101, 108, 100]) = true := beqL_t e0
      have HA := Lib.hid (show T = Lib.decDigits hn by rw [HT.out]; unfold ansL; rw [if_pos e0]; first | rfl | (rw [HHN.out]; rfl))
      clear e0
      go_wp2_with fail
      refine (held_any lo hi _ es w2 he2 (by omega) hl12 HVE.out).mono ?_
      rw [HHN.out]
      rintro e w3 ⟨rfl, b3⟩
      have HB3 := Lib.hid (HB2.out.trans (b3.mono HB2.out.size))
      clear b3
      go_wp2_with fail
      refine (number_any hn hn w3 (Nat.le_refl _) (by omega)).mono ?_
      rw [← HA.out]
      rintro e w4 ⟨rfl, rfl⟩
      go_wp2
      go_ret
      exact ⟨rfl, HB3.out⟩
    have q0 : (l == [104, 101, 108, 100]) = false := beqL_f e0
    by_cases e1 : l = wCame
    · have q1 : (l == [99, 97, 109, 101]) = true := beqL_t e1
      have HA := Lib.hid (show T = Lib.decDigits an by rw [HT.out]; unfold ansL; rw [if_neg e0, if_pos e1]; first | rfl | (rw [HHN.out]; rfl))
      clear e0 e1
      go_wp2_with fail
      have HB3 := HB2
      refine (number_any an an w2 (Nat.le_refl _) (by omega)).mono ?_
      rw [← HA.out]
      rintro e w4 ⟨rfl, rfl⟩
      go_wp2
      go_ret
      exact ⟨rfl, HB3.out⟩
    have q1 : (l == [99, 97, 109, 101]) = false := beqL_f e1
    by_cases e2 : l = wShip
    · have q2 : (l == [115, 104, 105, 112, 112, 101, 100]) = true := beqL_t e2
      have HA := Lib.hid (show T = Lib.decDigits bn by rw [HT.out]; unfold ansL; rw [if_neg e0, if_neg e1, if_pos e2]; first | rfl | (rw [HHN.out]; rfl))
      clear e0 e1 e2
      go_wp2_with fail
      have HB3 := HB2
      refine (number_any bn bn w2 (Nat.le_refl _) (by omega)).mono ?_
      rw [← HA.out]
      rintro e w4 ⟨rfl, rfl⟩
      go_wp2
      go_ret
      exact ⟨rfl, HB3.out⟩
    have q2 : (l == [115, 104, 105, 112, 112, 101, 100]) = false := beqL_f e2
    by_cases e3 : l = wPulp
    · have q3 : (l == [112, 117, 108, 112, 101, 100]) = true := beqL_t e3
      have HA := Lib.hid (show T = Lib.decDigits zn by rw [HT.out]; unfold ansL; rw [if_neg e0, if_neg e1, if_neg e2, if_pos e3]; first | rfl | (rw [HHN.out]; rfl))
      clear e0 e1 e2 e3
      go_wp2_with fail
      have HB3 := HB2
      refine (number_any zn zn w2 (Nat.le_refl _) (by omega)).mono ?_
      rw [← HA.out]
      rintro e w4 ⟨rfl, rfl⟩
      go_wp2
      go_ret
      exact ⟨rfl, HB3.out⟩
    have q3 : (l == [112, 117, 108, 112, 101, 100]) = false := beqL_f e3
    have HX := Lib.hid (show T = wWhat by rw [HT.out]; unfold ansL; rw [if_neg e0, if_neg e1, if_neg e2, if_neg e3, if_pos HN.out])
    clear e0 e1 e2 e3
    go_wp2
    go_ret
    exact ⟨congrArg (fun x => Ending.returned (Value.string (TB x))) HX.out.symm, HB2.out⟩
  · have qx : (x == [114, 111, 108, 108, 115]) = true := beqL_t hx
    have hny : ¬ (0 : Int) ≤ n := by omega
    have HXX := Lib.hid hx
    clear hx
    by_cases e0 : l = wHeld
    · have q0 : (l == [104, 101, 108, 100]) = true := beqL_t e0
      have HA := Lib.hid (show T = Lib.decDigits hn by rw [HT.out]; unfold ansL; rw [if_pos e0]; first | rfl | (rw [HHN.out]; rfl))
      clear e0
      go_wp2_with fail
      refine (readNumber_any y zy HZY.out w2 (by omega)).mono ?_
      rw [← HNN.out]
      rintro e w9 ⟨rfl, rfl⟩
      go_wp2_with fail
      refine (held_any lo hi _ es w2 he2 (by omega) hl12 HVE.out).mono ?_
      rw [HHN.out]
      rintro e w3 ⟨rfl, b3⟩
      have HB3 := Lib.hid (HB2.out.trans (b3.mono HB2.out.size))
      clear b3
      go_wp2_with fail
      refine (number_any hn hn w3 (Nat.le_refl _) (by omega)).mono ?_
      rw [← HA.out]
      rintro e w4 ⟨rfl, rfl⟩
      go_wp2
      go_ret
      exact ⟨rfl, HB3.out⟩
    have q0 : (l == [104, 101, 108, 100]) = false := beqL_f e0
    by_cases e1 : l = wCame
    · have q1 : (l == [99, 97, 109, 101]) = true := beqL_t e1
      have HA := Lib.hid (show T = Lib.decDigits an by rw [HT.out]; unfold ansL; rw [if_neg e0, if_pos e1]; first | rfl | (rw [HHN.out]; rfl))
      clear e0 e1
      go_wp2_with fail
      refine (readNumber_any y zy HZY.out w2 (by omega)).mono ?_
      rw [← HNN.out]
      rintro e w9 ⟨rfl, rfl⟩
      go_wp2_with fail
      have HB3 := HB2
      refine (number_any an an w2 (Nat.le_refl _) (by omega)).mono ?_
      rw [← HA.out]
      rintro e w4 ⟨rfl, rfl⟩
      go_wp2
      go_ret
      exact ⟨rfl, HB3.out⟩
    have q1 : (l == [99, 97, 109, 101]) = false := beqL_f e1
    by_cases e2 : l = wShip
    · have q2 : (l == [115, 104, 105, 112, 112, 101, 100]) = true := beqL_t e2
      have HA := Lib.hid (show T = Lib.decDigits bn by rw [HT.out]; unfold ansL; rw [if_neg e0, if_neg e1, if_pos e2]; first | rfl | (rw [HHN.out]; rfl))
      clear e0 e1 e2
      go_wp2_with fail
      refine (readNumber_any y zy HZY.out w2 (by omega)).mono ?_
      rw [← HNN.out]
      rintro e w9 ⟨rfl, rfl⟩
      go_wp2_with fail
      have HB3 := HB2
      refine (number_any bn bn w2 (Nat.le_refl _) (by omega)).mono ?_
      rw [← HA.out]
      rintro e w4 ⟨rfl, rfl⟩
      go_wp2
      go_ret
      exact ⟨rfl, HB3.out⟩
    have q2 : (l == [115, 104, 105, 112, 112, 101, 100]) = false := beqL_f e2
    by_cases e3 : l = wPulp
    · have q3 : (l == [112, 117, 108, 112, 101, 100]) = true := beqL_t e3
      have HA := Lib.hid (show T = Lib.decDigits zn by rw [HT.out]; unfold ansL; rw [if_neg e0, if_neg e1, if_neg e2, if_pos e3]; first | rfl | (rw [HHN.out]; rfl))
      clear e0 e1 e2 e3
      go_wp2_with fail
      refine (readNumber_any y zy HZY.out w2 (by omega)).mono ?_
      rw [← HNN.out]
      rintro e w9 ⟨rfl, rfl⟩
      go_wp2_with fail
      have HB3 := HB2
      refine (number_any zn zn w2 (Nat.le_refl _) (by omega)).mono ?_
      rw [← HA.out]
      rintro e w4 ⟨rfl, rfl⟩
      go_wp2
      go_ret
      exact ⟨rfl, HB3.out⟩
    have q3 : (l == [112, 117, 108, 112, 101, 100]) = false := beqL_f e3
    have HX := Lib.hid (show T = wWhat by rw [HT.out]; unfold ansL; rw [if_neg e0, if_neg e1, if_neg e2, if_neg e3, if_pos HN.out])
    clear e0 e1 e2 e3
    go_wp2_with fail
    refine (readNumber_any y zy HZY.out w2 (by omega)).mono ?_
    rw [← HNN.out]
    rintro e w9 ⟨rfl, rfl⟩
    go_wp2
    go_ret
    exact ⟨congrArg (fun x => Ending.returned (Value.string (TB x))) HX.out.symm, HB2.out⟩
end Go.Proofs.YtkgepklapglmdaaGreatDoor

namespace Go.Proofs.YtkgepklapglmdaaGreatDoor
open Go.RowKit
attribute [local go_sem ↓] Go.wp_at_zero Go.wp_at_succ

def wClosed : List UInt8 := [99, 108, 111, 115, 101, 100]
/-- the answer to a line: of a mill, or of none -/
def oneL (r : Option Mil) (l : List UInt8) : List UInt8 := match r with | some m => ansL m l | none => wClosed
/-- all answers, each with a newline -/
def deskL (r : Option Mil) (ls : List (List UInt8)) : List UInt8 := ls.flatMap fun l => oneL r l ++ [10]
/-- the desk's text -/
def rdL (r : Option Mil) (ls : List (List UInt8)) : List UInt8 := if ls.length ≤ 20 then deskL r ls else []
theorem deskL_snoc (r : Option Mil) (ls : List (List UInt8)) (l : List UInt8) : deskL r (ls ++ [l]) = deskL r ls ++ (oneL r l ++ [10]) := by simp [deskL]
theorem deskL_take {r : Option Mil} {ls : List (List UInt8)} {k : Nat} (h : k < ls.length) : deskL r (ls.take (k + 1)) = deskL r (ls.take k) ++ (oneL r (gs ls k) ++ [10]) := by
  rw [← deskL_snoc, gs_eq h, List.take_succ_eq_append_getElem h]
/-- the answers to the first lines are the beginning of those to all -/
theorem deskL_pre (r : Option Mil) (ls : List (List UInt8)) (k : Nat) : deskL r (ls.take k) <+: deskL r ls := by
  refine ⟨deskL r (ls.drop k), ?_⟩
  unfold deskL
  rw [← List.flatMap_append, List.take_append_drop]
theorem dec_10D (n : Nat) : ∀ b ∈ Lib.decDigits n, b ≠ 10 := fun b hb e => by
  have h := (dec_ok n).1
  rw [List.all_eq_true] at h
  have h2 := dgt_iff.1 (h b hb)
  subst e
  have : (10 : UInt8).toNat = 10 := rfl
  omega
theorem ansL_10 (m : Mil) (l : List UInt8) : ∀ b ∈ ansL m l, b ≠ 10 := by
  unfold ansL
  split
  · exact dec_10D _
  split
  · exact dec_10D _
  split
  · exact dec_10D _
  split
  · exact dec_10D _
  split
  · unfold wWhat; decide
  split
  · unfold wNone; decide
  · exact dec_10D _
theorem oneL_10 (r : Option Mil) (l : List UInt8) : ∀ b ∈ oneL r l, b ≠ 10 := by
  cases r with
  | some m => exact ansL_10 m l
  | none => show ∀ b ∈ wClosed, b ≠ 10; unfold wClosed; decide
/-- a newline for each line -/
theorem deskL_count (r : Option Mil) (ls : List (List UInt8)) : (deskL r ls).count 10 = ls.length := by
  induction ls with
  | nil => rfl
  | cons l t ih =>
    have h1 : deskL r (l :: t) = oneL r l ++ ([10] ++ deskL r t) := by simp [deskL]
    have h2 : (oneL r l).count 10 = 0 := List.count_eq_zero.2 fun hm => oneL_10 r l 10 hm rfl
    rw [h1, List.count_append, List.count_append, h2, ih, List.length_cons]
    have : ([10] : List UInt8).count 10 = 1 := by decide
    omega
theorem ansL_len {m : Mil} (h : vMill m.es m.a m.b m.z = true) (l : List UInt8) : (ansL m l).length ≤ 10 := by
  obtain ⟨hve, hl12, ha, hb, hz, hsum⟩ := vMill_iff.1 h
  have hh0 : 0 ≤ heldL m.es := by have h9 := (held_rng (fun k hk => (hve k hk).1) m.es.length (Nat.le_refl _)).1; rwa [List.take_length] at h9
  have hd : ∀ n : Nat, n ≤ 999999 → (Lib.decDigits n).length ≤ 10 := fun n hn => by have := (dec_len (n := n) (by omega)).2; omega
  unfold ansL
  split
  · exact hd _ (by omega)
  split
  · exact hd _ (by omega)
  split
  · exact hd _ (by omega)
  split
  · exact hd _ (by omega)
  split
  · decide
  split
  · decide
  · rename_i h1 h2
    rcases entI_rng m.es (rollsN l) with h9 | ⟨i, h9, h8⟩
    · exact absurd h9 h2
    · have := ((mill_sizes h).2 i h8).2
      rw [h9]
      exact hd _ (by show (ge m.es i).ps.length ≤ 999999; omega)
theorem oneL_len {r : Option Mil} (h : ∀ m, r = some m → vMill m.es m.a m.b m.z = true) (l : List UInt8) : (oneL r l).length ≤ 10 := by
  cases r with
  | some m => exact ansL_len (h m rfl) l
  | none => show wClosed.length ≤ 10; decide
theorem deskL_len {r : Option Mil} (h : ∀ m, r = some m → vMill m.es m.a m.b m.z = true) (ls : List (List UInt8)) : (deskL r ls).length ≤ 11 * ls.length := by
  induction ls with
  | nil => simp [deskL]
  | cons l t ih =>
    have h1 : deskL r (l :: t) = oneL r l ++ ([10] ++ deskL r t) := by simp [deskL]
    have h2 := oneL_len h l
    simp only [h1, List.length_append, List.length_cons, List.length_nil]
    omega
end Go.Proofs.YtkgepklapglmdaaGreatDoor

namespace Go.Proofs.YtkgepklapglmdaaGreatDoor
open Go.RowKit
attribute [local go_sem ↓] Go.wp_at_zero Go.wp_at_succ

/-- the events of a text -/
def evD (xss : List (List Int)) : List Evt := xss.map fun l => ⟨gi l 0, gi l 1, gi l 2, gi l 3, gi l 4, gi l 5, gi l 6⟩
theorem evT_evD {xss : List (List Int)} (h : ∀ x ∈ xss, x.length = 7) : evT (evD xss) = xss := by
  unfold evT evD
  rw [List.map_map]
  conv => rhs; rw [← List.map_id xss]
  exact List.map_congr_left fun x hx => (list7 (h x hx)).symm
theorem recE_lenD : ∀ (n : Nat) (L : List (List UInt8)), (recE n L).length ≤ n
  | 0, L => by rw [recE_zero]; simp
  | n + 1, [] => by rw [recE_nil]; simp
  | n + 1, x :: t => by
    cases hp : parE x with
    | none => rw [recE_no hp]; simp
    | some e =>
      cases t with
      | nil => rw [recE_one]; simp
      | cons y t =>
        rw [recE_yes hp (by simp), List.length_cons]
        have := recE_lenD n (y :: t)
        omega
/-- the mill of a book's text -/
def rbD (l : List UInt8) : Option Mil := runB Mil.nil (evD (recB l))
theorem rbD_ok {l : List UInt8} : ∀ m, rbD l = some m → vMill m.es m.a m.b m.z = true := fun m h => (runB_ok (by decide) h).1
theorem rbV_D (l : List UInt8) : rbV (evD (recB l)) = rbD l := by
  unfold rbV rbD
  rw [if_pos (by unfold evD; rw [List.length_map]; exact recE_lenD 60 _)]
set_option maxRecDepth 100000 in
set_option maxHeartbeats 4000000 in
theorem RunDeskS_any (lo hi : Nat) (u : Value) (l : List UInt8) (s : ByteArray) (hs : s = TB l) (ls : List (List UInt8)) (w : World) (hx : Strs w lo hi u ls) (hhi : hi ≤ w.heap.size) (hl : l.length ≤ 1048577) (hlb : ∀ x ∈ ls, x.length ≤ 1048576) :
    Calls Tryz.prog 16 #[.string s, u] w fun e w' => e = .returned (.string (TB (rdL (rbD l) ls))) ∧ Below w.heap.size w w' := by
  obtain ⟨A, c, rfl, hc, hm⟩ := hx.form
  have HS := Lib.hid hs
  have HX := Lib.hid hx
  obtain ⟨R, hR⟩ : ∃ R, R = rdL (rbD l) ls := ⟨_, rfl⟩
  rw [← hR]
  have HR := Lib.hid hR
  clear hs hx hR
  by_cases hbig : 20 < ls.length
  · have hb' : (20 : Int) < (ls.length : Int) := by omega
    have HE := Lib.hid (show R = [] by rw [HR.out]; unfold rdL; rw [if_neg (by omega)])
    go_enter Tryz.func16, Tryz.ntmps16
    go_wp2
    go_ret
    exact ⟨by rw [HE.out]; rfl, Below.refl _ _⟩
  have hb' : ¬ (20 : Int) < (ls.length : Int) := by omega
  have HRE := Lib.hid (show R = deskL (rbD l) ls by rw [HR.out]; unfold rdL; rw [if_pos (by omega)])
  go_enter Tryz.func16, Tryz.ntmps16
  go_wp2_with fail
  refine (recoverBookS_any l s HS.out w (by omega)).mono ?_
  rintro e w2 ⟨v2, rfl, o2, b2⟩
  have hts := o2.ts
  have HET := Lib.hid (show evT (evD (recB l)) = recB l from evT_evD fun x hx => by obtain ⟨_, _, _, _, _, _, h7⟩ := hts; exact (h7 x hx).1)
  rw [← HET.out] at hts
  obtain ⟨evs, hevs⟩ : ∃ evs, evs = evD (recB l) := ⟨_, rfl⟩
  have HEV := Lib.hid hevs
  rw [← hevs] at hts
  have hlen : evs.length ≤ 1000 := by rw [hevs]; unfold evD; rw [List.length_map]; have := recE_lenD 60 (splitC 10 [] l); unfold recB; omega
  obtain ⟨A2, c2, rfl, _⟩ := hts.form
  have HTS := Lib.hid hts
  have HB2 := Lib.hid b2
  have hs2 : w.heap.size ≤ w2.heap.size := b2.size
  have HX2 := Lib.hid (HX.out.kept (.of_below b2 hhi))
  clear o2 b2 hts hevs HR HET
  go_wp2_with fail
  refine (runBook_any _ _ _ evs w2 HTS.out (Nat.le_refl _) hlen).mono ?_
  intro e w3 hpost
  obtain ⟨v3, rfl, he3, b3⟩ := hpost
  obtain ⟨r, hr⟩ : ∃ r, r = rbD l := ⟨_, rfl⟩
  have HRR := Lib.hid hr
  rw [show runB Mil.nil evs = r by rw [hr, HEV.out]; rfl] at he3 ⊢
  have HOK := Lib.hid (show ∀ m, r = some m → vMill m.es m.a m.b m.z = true by rw [hr]; exact rbD_ok)
  rw [← hr] at HRE
  obtain ⟨rs, hrs⟩ : ∃ rs, rs = r.isSome := ⟨_, rfl⟩
  obtain ⟨⟨es, a, b, z⟩, hM⟩ : ∃ M, M = r.getD Mil.nil := ⟨_, rfl⟩
  rw [← hM] at he3 ⊢
  rw [← hrs]
  have HC := Lib.hid (show (rs = true ∧ r = some ⟨es, a, b, z⟩) ∨ (rs = false ∧ r = none) by
    cases r with
    | none => exact .inr ⟨hrs, rfl⟩
    | some m => exact .inl ⟨hrs, by rw [hM]; rfl⟩)
  dsimp only at he3 ⊢
  obtain ⟨A3, c3, rfl, _⟩ := he3.form
  have HB3 := Lib.hid (HB2.out.trans (b3.mono hs2))
  have hs3 : w2.heap.size ≤ w3.heap.size := b3.size
  have HX3 := Lib.hid (HX2.out.kept (.of_below b3 (by omega)))
  clear b3 hr hrs hM HTS HX2 HEV
  go_wp2
  obtain ⟨w4, hw1⟩ : ∃ w4, w4 = w3.alloc (.cells #[.slice A3 es.length c3, .int .i64 a, .int .i64 b, .int .i64 z] 25) := ⟨_, rfl⟩
  have x0 : w4.cell? ⟨w3.heap.size, 0, none⟩ = some (.slice A3 es.length c3) := by rw [hw1]; go_simp
  have x1 : w4.cell? ⟨w3.heap.size, 1, none⟩ = some (.int .i64 a) := by rw [hw1]; go_simp
  have x2 : w4.cell? ⟨w3.heap.size, 2, none⟩ = some (.int .i64 b) := by rw [hw1]; go_simp
  have x3 : w4.cell? ⟨w3.heap.size, 3, none⟩ = some (.int .i64 z) := by rw [hw1]; go_simp
  have bx : Below w3.heap.size w3 w4 := by rw [hw1]; exact (Below.refl _ _).alloc (Nat.le_refl _) _
  have zx : w3.heap.size < w4.heap.size := by rw [hw1]; simp
  have Hx := Lib.hid (show w4.heap[w3.heap.size]? = some (.cells #[.slice A3 es.length c3, .int .i64 a, .int .i64 b, .int .i64 z] 25) by rw [hw1]; exact heap_alloc_new w3 _)
  rw [← hw1]
  clear hw1
  have he4 := he3.below bx (Nat.le_refl _)
  have HB4 := Lib.hid (HB3.out.trans (bx.mono HB3.out.size))
  have HX4 := Lib.hid (HX3.out.kept (.of_below bx (by omega)))
  have hs4 : w3.heap.size ≤ w4.heap.size := bx.size
  clear bx Hx HX3 he3
  go_loopw [7, 8] (fun o i wr => ∃ (k : Nat) (zo : ByteArray), k ≤ ls.length ∧ i = .int .i64 (k : Int) ∧ o = .string zo ∧ zo.size ≤ 11 * k ∧ Hid (zo = TB (deskL r (ls.take k))) ∧ Hid (Below w4.heap.size w4 wr)) (fun _ i _ => ls.length - (intOf i).toNat)
  case atStart => exact ⟨0, ⟨#[]⟩, Nat.zero_le _, rfl, rfl, Nat.le_refl _, rfl, Below.refl _ _⟩
  case round =>
    obtain ⟨k, zo, hk, rfl, rfl, hzo, HZ, HB⟩ := hrel
    obtain ⟨wo, rfl⟩ : ∃ wo : World, wo = wr := ⟨_, rfl⟩
    have x0 := keepB HB.out x0
    have x1 := keepB HB.out x1
    have x2 := keepB HB.out x2
    have x3 := keepB HB.out x3
    have heo := he4.below HB.out hs4
    have hso : w4.heap.size ≤ wo.heap.size := HB.out.size
    by_cases hlt : k < ls.length
    rotate_left
    · have hnk : ¬ (k : Int) < (ls.length : Int) := by omega
      have HE := Lib.hid (show zo = TB R by rw [HZ.out, HRE.out, List.take_of_length_le (by omega)])
      have HBB := Lib.hid (HB4.out.trans (HB.out.mono HB4.out.size))
      go_wp2
      go_ret
      exact ⟨congrArg (fun z => Ending.returned (Value.string z)) HE.out, HBB.out⟩
    have k0 : (0 : Int) ≤ (k : Int) := by omega
    have k1 : (k : Int) < (ls.length : Int) := by omega
    have HXo := Lib.hid (HX4.out.kept (.of_below HB.out (by omega)))
    obtain ⟨b9, o9, hA, _, _, d0⟩ := HXo.out.cell hlt
    subst hA
    have hll : (gs ls k).length ≤ 1048576 := hlb _ (by rw [gs_eq hlt]; exact List.getElem_mem _)
    obtain ⟨zl, hzl⟩ : ∃ z, z = TB (gs ls k) := ⟨_, rfl⟩
    have HZL := Lib.hid hzl
    rw [← hzl] at d0
    have HTK := Lib.hid (deskL_take (r := r) hlt)
    have HOL := Lib.hid (oneL_len HOK.out (gs ls k))
    clear hzl
    rcases HC.out with ⟨rfl, hr⟩ | ⟨rfl, hr⟩
    · obtain ⟨T, hT⟩ : ∃ T, T = ansL ⟨es, a, b, z⟩ (gs ls k) := ⟨_, rfl⟩
      have HT := Lib.hid hT
      have HON := Lib.hid (show oneL r (gs ls k) = T by rw [hr, hT]; rfl)
      have hTl : T.length ≤ 10 := by rw [← HON.out]; exact HOL.out
      have HV := Lib.hid (HOK.out _ hr)
      obtain ⟨zn, hzn⟩ : ∃ z, z = TB T := ⟨_, rfl⟩
      have HZN := Lib.hid hzn
      have hzs : zn.size ≤ 10 := by rw [hzn, TB_size]; exact hTl
      obtain ⟨z1, hz1⟩ : ∃ z, z = zo ++ zn := ⟨_, rfl⟩
      have hz1e : zo ++ zn = z1 := hz1.symm
      have hz1s : z1.size ≤ 11 * k + 10 := by rw [hz1, ByteArray.size_append]; omega
      obtain ⟨z2, hz2⟩ : ∃ z, z = z1 ++ ⟨#[10]⟩ := ⟨_, rfl⟩
      have hz2e : z1 ++ ⟨#[10]⟩ = z2 := hz2.symm
      have hz2s : z2.size ≤ 11 * (k + 1) := by rw [hz2, ByteArray.size_append]; show z1.size + 1 ≤ _; omega
      have HZ2 := Lib.hid (show z2 = TB (deskL r (ls.take (k + 1))) by rw [HTK.out, HON.out, hz2, hz1, HZ.out, hzn, show (⟨#[10]⟩ : ByteArray) = TB [10] from rfl, TB_app, TB_app, List.append_assoc])
      have hsa : zo.size + zn.size ≤ 9223372036854775807 := by omega
      have hsa2 : ¬ 9223372036854775807 < zo.size + zn.size := by omega
      have hsb : z1.size + 1 ≤ 9223372036854775807 := by omega
      have hsb2 : ¬ 9223372036854775807 < z1.size + 1 := by omega
      have gk : IntKind.i64.wrap ((k : Int) + 1) = ((k + 1 : Nat) : Int) := IntWalk.i64_in _ (by omega)
      clear hT hzn hz1 hz2 hr
      go_wp2
      refine wp_region_held_drew (S := fun w' => w'.cell? ⟨w3.heap.size, 0, none⟩ = some (.slice A3 es.length c3) ∧ w'.cell? ⟨w3.heap.size, 1, none⟩ = some (.int .i64 a) ∧ w'.cell? ⟨w3.heap.size, 2, none⟩ = some (.int .i64 b) ∧ w'.cell? ⟨w3.heap.size, 3, none⟩ = some (.int .i64 z) ∧ w'.cell? ⟨b9, o9 + k, none⟩ = some (.string zl)) (by kernel_rfl) ?_ (fun hHeld => ?_)
      · (first | (try dsimp only); go_keep | (go_split_ands; refine ⟨?_, ?_, ?_, ?_, ?_⟩ <;> first | exact keepB bx1 (by assumption) | assumption))
      refine wpAnyH_take (i := 0) (oi := ⟨some 25, _, _, _, _, _⟩) (v := _) rfl (by kernel_rfl) (by kernel_rfl) (by kernel_rfl) (fun _ _ _ h => h) (Or.inl ⟨by kernel_rfl, by intro w hSw; (try dsimp only at hSw); go_simp; try with_reducible rfl⟩) (by assumption) ?_
      simp only [Act.put, List.setIfInBounds_toArray, List.set_cons_zero, List.set_cons_succ]
      refine wpAnyH_take (i := 1) (oi := ⟨some 26, _, _, _, _, _⟩) (v := _) rfl (by kernel_rfl) (by kernel_rfl) (by kernel_rfl) (fun _ _ _ h => h) (Or.inl ⟨by kernel_rfl, by intro w hSw; (try dsimp only at hSw); go_simp; try with_reducible rfl⟩) (by assumption) ?_
      simp only [Act.put, List.setIfInBounds_toArray, List.set_cons_zero, List.set_cons_succ]
      refine wpAnyH_take (i := 2) (oi := ⟨some 27, _, _, _, _, _⟩) (v := _) rfl (by kernel_rfl) (by kernel_rfl) (by kernel_rfl) (fun _ _ _ h => h) (Or.inl ⟨by kernel_rfl, by intro w hSw; (try dsimp only at hSw); go_simp; try with_reducible rfl⟩) (by assumption) ?_
      simp only [Act.put, List.setIfInBounds_toArray, List.set_cons_zero, List.set_cons_succ]
      refine wpAnyH_take (i := 3) (oi := ⟨some 28, _, _, _, _, _⟩) (v := _) rfl (by kernel_rfl) (by kernel_rfl) (by kernel_rfl) (fun _ _ _ h => h) (Or.inl ⟨by kernel_rfl, by intro w hSw; (try dsimp only at hSw); go_simp; try with_reducible rfl⟩) (by assumption) ?_
      simp only [Act.put, List.setIfInBounds_toArray, List.set_cons_zero, List.set_cons_succ]
      refine wpAnyH_take (i := 4) (oi := ⟨some 29, _, _, _, _, _⟩) (v := _) rfl (by kernel_rfl) (by kernel_rfl) (by kernel_rfl) (fun _ _ _ h => h) (Or.inl ⟨by kernel_rfl, by intro w hSw; (try dsimp only at hSw); go_simp; try with_reducible rfl⟩) (by assumption) ?_
      simp only [Act.put, List.setIfInBounds_toArray, List.set_cons_zero, List.set_cons_succ]
      refine wpAnyH_take (i := 5) (oi := ⟨some 30, _, _, _, _, _⟩) (v := _) rfl (by kernel_rfl) (by kernel_rfl) (by kernel_rfl) (fun _ _ _ h => h) (Or.inl ⟨by kernel_rfl, by intro w hSw; (try dsimp only at hSw); go_simp; try with_reducible rfl⟩) (by assumption) ?_
      simp only [Act.put, List.setIfInBounds_toArray, List.set_cons_zero, List.set_cons_succ]
      refine wpAnyH_ready (rs := [6]) (by kernel_rfl) (by simp) ?_
      refine AllReadyH.cons (o := ⟨some 31, _, _, _, _, _⟩) rfl (fun K hK => ?_) AllReadyH.nil
      go_simp
      go_at_call 51
      refine (answer_any _ _ _ es a b z (gs ls k) zl HZL.out wo.drew (heo.kept fun _ _ _ => rfl) (by show w3.heap.size ≤ wo.heap.size; omega) HV.out (by omega)).mono ?_
      rw [← HT.out, ← HZN.out]
      rintro e y1 ⟨rfl, bx1⟩
      have HBX := Lib.hid bx1
      go_wp2_with fail
      refine hK.out _ _ ?_ (fun hHeld2 => ?_)
      · (first | (try dsimp only); go_keep | (go_split_ands; refine ⟨?_, ?_, ?_, ?_, ?_⟩ <;> first | exact keepB bx1 (by assumption) | assumption))
      clear hK K hHeld
      have hHeld := hHeld2
      clear hHeld2
      try simp only [Act.put, List.setIfInBounds_toArray, List.set_cons_zero, List.set_cons_succ]
      refine wpAnyH_take (i := 7) (oi := ⟨some 32, _, _, _, _, _⟩) (v := _) rfl (by kernel_rfl) (by kernel_rfl) (by kernel_rfl) (fun _ _ _ h => h) (Or.inl ⟨by kernel_rfl, by intro w hSw; (try dsimp only at hSw); go_simp; try with_reducible rfl⟩) (by assumption) ?_
      simp only [Act.put, List.setIfInBounds_toArray, List.set_cons_zero, List.set_cons_succ]
      refine wpAnyH_take (i := 8) (oi := ⟨some 33, _, _, _, _, _⟩) (v := _) rfl (by kernel_rfl) (by kernel_rfl) (by kernel_rfl) (fun _ _ _ h => h) (Or.inl ⟨by kernel_rfl, by intro w hSw; (try dsimp only at hSw); go_simp; try with_reducible rfl⟩) (by assumption) ?_
      simp only [Act.put, List.setIfInBounds_toArray, List.set_cons_zero, List.set_cons_succ]
      refine wpAnyH_take (i := 9) (oi := ⟨some 7, _, _, _, _, _⟩) (v := _) rfl (by kernel_rfl) (by kernel_rfl) (by kernel_rfl) (fun _ _ _ h => h) (Or.inl ⟨by kernel_rfl, by intro w hSw; (try dsimp only at hSw); go_simp; try with_reducible rfl⟩) (by assumption) ?_
      simp only [Act.put, List.setIfInBounds_toArray, List.set_cons_zero, List.set_cons_succ]
      refine wpAnyH_done (by kernel_rfl) ?_ _
      focus
        clear hHeld
        have HBN := Lib.hid (HB.out.trans ((of_drew HBX.out).mono hso))
        go_wp2
        go_roundw
        case rel => exact ⟨k + 1, z2, by omega, rfl, rfl, hz2s, HZ2, HBN⟩
        case measure => simp [intOf]; omega
    · have HON := Lib.hid (show oneL r (gs ls k) = wClosed by rw [hr]; rfl)
      obtain ⟨z2, hz2⟩ : ∃ z, z = zo ++ ⟨#[99, 108, 111, 115, 101, 100, 10]⟩ := ⟨_, rfl⟩
      have hz2e : zo ++ ⟨#[99, 108, 111, 115, 101, 100, 10]⟩ = z2 := hz2.symm
      have hz2s : z2.size ≤ 11 * (k + 1) := by rw [hz2, ByteArray.size_append]; show zo.size + 7 ≤ _; omega
      have HZ2 := Lib.hid (show z2 = TB (deskL r (ls.take (k + 1))) by rw [HTK.out, HON.out, hz2, HZ.out, show (⟨#[99, 108, 111, 115, 101, 100, 10]⟩ : ByteArray) = TB (wClosed ++ [10]) from rfl, TB_app])
      have hsa : zo.size + 7 ≤ 9223372036854775807 := by omega
      have hsa2 : ¬ 9223372036854775807 < zo.size + 7 := by omega
      have gk : IntKind.i64.wrap ((k : Int) + 1) = ((k + 1 : Nat) : Int) := IntWalk.i64_in _ (by omega)
      clear hz2 hr
      go_wp2
      go_roundw
      case rel => exact ⟨k + 1, z2, by omega, rfl, rfl, hz2s, HZ2, HB⟩
      case measure => simp [intOf]; omega
end Go.Proofs.YtkgepklapglmdaaGreatDoor

namespace Go.Proofs.YtkgepklapglmdaaGreatDoor
open Go.RowKit
attribute [local go_sem ↓] Go.wp_at_zero Go.wp_at_succ

set_option maxRecDepth 100000 in
set_option maxHeartbeats 4000000 in
theorem RunDeskI_any (B lo hi : Nat) (u : Value) (l : List UInt8) (s : ByteArray) (hs : s = TB l) (ls : List (List UInt8)) (w : World) (hp : Pow B w) (hsh : w.ShapedOpen Tryz.prog) (hx : Strs w lo hi u ls) (hhi : hi ≤ w.heap.size) (hl : l.length ≤ 1048577) (hlb : ∀ x ∈ ls, x.length ≤ 1048576) :
    Calls Tryz.prog 18 #[.string s, u] w fun e w' => e = .returned (.string (TB (rdL (rbD l) ls))) ∧ Below w.heap.size w w' := by
  obtain ⟨A, c, rfl, hc, hm⟩ := hx.form
  have HS := Lib.hid hs
  have HX := Lib.hid hx
  have HPW := Lib.hid hp
  have HSH := Lib.hid hsh
  obtain ⟨R, hR⟩ : ∃ R, R = rdL (rbD l) ls := ⟨_, rfl⟩
  rw [← hR]
  have HR := Lib.hid hR
  clear hs hx hR hp hsh
  by_cases hbig : 20 < ls.length
  · have hb' : (20 : Int) < (ls.length : Int) := by omega
    have HE := Lib.hid (show R = [] by rw [HR.out]; unfold rdL; rw [if_neg (by omega)])
    go_enter Tryz.func18, Tryz.ntmps18
    go_wp2
    go_ret
    exact ⟨by rw [HE.out]; rfl, Below.refl _ _⟩
  have hb' : ¬ (20 : Int) < (ls.length : Int) := by omega
  have HRE := Lib.hid (show R = deskL (rbD l) ls by rw [HR.out]; unfold rdL; rw [if_pos (by omega)])
  go_enter Tryz.func18, Tryz.ntmps18
  go_wp2_with fail
  refine (RecoverBookI_any l s HS.out w (by omega) HSH.out).mono ?_
  rintro e w2 ⟨v2, rfl, o2, b2⟩
  have hts := o2.ts
  have HET := Lib.hid (show evT (evD (recB l)) = recB l from evT_evD fun x hx => by obtain ⟨_, _, _, _, _, _, h7⟩ := hts; exact (h7 x hx).1)
  rw [← HET.out] at hts
  obtain ⟨evs, hevs⟩ : ∃ evs, evs = evD (recB l) := ⟨_, rfl⟩
  have HEV := Lib.hid hevs
  rw [← hevs] at hts
  have hlen : evs.length ≤ 1000 := by rw [hevs]; unfold evD; rw [List.length_map]; have := recE_lenD 60 (splitC 10 [] l); unfold recB; omega
  obtain ⟨A2, c2, rfl, _⟩ := hts.form
  have HTS := Lib.hid hts
  have HB2 := Lib.hid b2
  have hs2 : w.heap.size ≤ w2.heap.size := b2.size
  have HX2 := Lib.hid (HX.out.kept (.of_below b2 hhi))
  clear o2 b2 hts hevs HR HET
  go_wp2_with fail
  refine (RunBook_any _ _ _ evs w2 HTS.out (Nat.le_refl _)).mono ?_
  intro e w3 hpost
  obtain ⟨v3, rfl, he3, b3⟩ := hpost
  obtain ⟨r, hr⟩ : ∃ r, r = rbD l := ⟨_, rfl⟩
  have HRR := Lib.hid hr
  rw [show rbV evs = r by rw [hr, HEV.out]; exact rbV_D l] at he3 ⊢
  have HOK := Lib.hid (show ∀ m, r = some m → vMill m.es m.a m.b m.z = true by rw [hr]; exact rbD_ok)
  rw [← hr] at HRE
  obtain ⟨rs, hrs⟩ : ∃ rs, rs = r.isSome := ⟨_, rfl⟩
  obtain ⟨⟨es, a, b, z⟩, hM⟩ : ∃ M, M = r.getD Mil.nil := ⟨_, rfl⟩
  rw [← hM] at he3 ⊢
  rw [← hrs]
  have HC := Lib.hid (show (rs = true ∧ r = some ⟨es, a, b, z⟩) ∨ (rs = false ∧ r = none) by
    cases r with
    | none => exact .inr ⟨hrs, rfl⟩
    | some m => exact .inl ⟨hrs, by rw [hM]; rfl⟩)
  dsimp only at he3 ⊢
  obtain ⟨A3, c3, rfl, _⟩ := he3.es.form
  have HB3 := Lib.hid (HB2.out.trans (b3.mono hs2))
  have hs3 : w2.heap.size ≤ w3.heap.size := b3.size
  have HX3 := Lib.hid (HX2.out.kept (.of_below b3 (by omega)))
  clear b3 hr hrs hM HTS HX2 HEV
  go_wp2
  obtain ⟨w4, hw1⟩ : ∃ w4, w4 = w3.alloc (.cells #[.slice A3 es.length c3, .int .i64 a, .int .i64 b, .int .i64 z] 25) := ⟨_, rfl⟩
  have x0 : w4.cell? ⟨w3.heap.size, 0, none⟩ = some (.slice A3 es.length c3) := by rw [hw1]; go_simp
  have x1 : w4.cell? ⟨w3.heap.size, 1, none⟩ = some (.int .i64 a) := by rw [hw1]; go_simp
  have x2 : w4.cell? ⟨w3.heap.size, 2, none⟩ = some (.int .i64 b) := by rw [hw1]; go_simp
  have x3 : w4.cell? ⟨w3.heap.size, 3, none⟩ = some (.int .i64 z) := by rw [hw1]; go_simp
  have bx : Below w3.heap.size w3 w4 := by rw [hw1]; exact (Below.refl _ _).alloc (Nat.le_refl _) _
  have zx : w3.heap.size < w4.heap.size := by rw [hw1]; simp
  have HZx := Lib.hid (show w4.heap.size = w3.heap.size + 1 by rw [hw1]; simp)
  have fx0 : w4.frozen? ⟨w3.heap.size, 0, none⟩ = false := by rw [hw1]; go_simp
  have fx1 : w4.frozen? ⟨w3.heap.size, 1, none⟩ = false := by rw [hw1]; go_simp
  have fx2 : w4.frozen? ⟨w3.heap.size, 2, none⟩ = false := by rw [hw1]; go_simp
  have fx3 : w4.frozen? ⟨w3.heap.size, 3, none⟩ = false := by rw [hw1]; go_simp
  have Hx := Lib.hid (show w4.heap[w3.heap.size]? = some (.cells #[.slice A3 es.length c3, .int .i64 a, .int .i64 b, .int .i64 z] 25) by rw [hw1]; exact heap_alloc_new w3 _)
  rw [← hw1]
  clear hw1
  have he4 := he3.es.below bx (Nat.le_refl _)
  have HB4 := Lib.hid (HB3.out.trans (bx.mono HB3.out.size))
  have HX4 := Lib.hid (HX3.out.kept (.of_below bx (by omega)))
  have hs4 : w3.heap.size ≤ w4.heap.size := bx.size
  obtain ⟨q, hq⟩ : ∃ q, q = w3.heap.size + 1 := ⟨_, rfl⟩
  have hq1 : q ≤ w4.heap.size := by have := HZx.out; omega
  have hq2 : w4.heap.size ≤ q := by have := HZx.out; omega
  have HQ := Lib.hid (show w4.heap.size = q by have := HZx.out; omega)
  rw [← hq]
  clear bx Hx HX3 he3 hq HZx fx0 fx1 fx2 fx3
  obtain ⟨w5, hw5⟩ : ∃ w5, w5 = w4.alloc (.cells #[.pointer none, .slice none 0 0] 79) := ⟨_, rfl⟩
  have HK0 := Lib.hid (show Bld q q [] w5 by rw [hw5, ← HQ.out]; exact Bld.fresh w4)
  have by_ : Below w4.heap.size w4 w5 := by rw [hw5]; exact (Below.refl _ _).alloc (Nat.le_refl _) _
  have hz5 : q < w5.heap.size := Nat.lt_of_le_of_lt hq1 (by rw [hw5]; simp)
  have HBY := Lib.hid by_
  rw [← hw5]
  clear hw5 by_
  go_loopw [9, 10, 22] (fun _ _ i wr => ∃ k : Nat, k ≤ ls.length ∧ i = .int .i64 (k : Int) ∧ Hid (Bld q q (deskL r (ls.take k)) wr) ∧ Hid (Below w4.heap.size w4 wr) ∧ q < wr.heap.size ∧ (deskL r (ls.take k)).length ≤ 11 * k) (fun _ _ i _ => ls.length - (intOf i).toNat)
  case atStart => exact ⟨0, Nat.zero_le _, rfl, HK0.out, HBY.out, hz5, by simp [deskL]⟩
  case round =>
    obtain ⟨k, hk, rfl, HK, HB, hzo, hjl⟩ := hrel
    clear HBY HK0 hz5
    obtain ⟨wo, rfl⟩ : ∃ wo : World, wo = wr := ⟨_, rfl⟩
    have x0 := keepB HB.out x0
    have x1 := keepB HB.out x1
    have x2 := keepB HB.out x2
    have x3 := keepB HB.out x3
    have heo := he4.below HB.out hs4
    have hso : w4.heap.size ≤ wo.heap.size := HB.out.size
    by_cases hlt : k < ls.length
    rotate_left
    · have hnk : ¬ (k : Int) < (ls.length : Int) := by omega
      have HE := Lib.hid (show deskL r (ls.take k) = R by rw [HRE.out, List.take_of_length_le (by omega)])
      have HK2 := Lib.hid (show Bld q q R wo by rw [← HE.out]; exact HK.out)
      have HBB := Lib.hid (HB4.out.trans (HB.out.mono HB4.out.size))
      go_wp2_with fail
      refine (Tryz.Builder_String_any q q R wo HK2.out (by omega)).mono ?_
      rintro e w7 ⟨rfl, b7⟩
      have HB7 := Lib.hid (HBB.out.trans (b7.mono (by have := HB4.out.size; omega)))
      clear b7
      go_wp2
      go_ret
      exact ⟨rfl, HB7.out⟩
    have k0 : (0 : Int) ≤ (k : Int) := by omega
    have k1 : (k : Int) < (ls.length : Int) := by omega
    have HXo := Lib.hid (HX4.out.kept (.of_below HB.out (by omega)))
    obtain ⟨b9, o9, hA, _, _, d0⟩ := HXo.out.cell hlt
    subst hA
    have hll : (gs ls k).length ≤ 1048576 := hlb _ (by rw [gs_eq hlt]; exact List.getElem_mem _)
    obtain ⟨zl, hzl⟩ : ∃ z, z = TB (gs ls k) := ⟨_, rfl⟩
    have HZL := Lib.hid hzl
    rw [← hzl] at d0
    have HTK := Lib.hid (deskL_take (r := r) hlt)
    have HOL := Lib.hid (oneL_len HOK.out (gs ls k))
    have gk : IntKind.i64.wrap ((k : Int) + 1) = ((k + 1 : Nat) : Int) := IntWalk.i64_in _ (by omega)
    clear hzl
    rcases HC.out with ⟨rfl, hr⟩ | ⟨rfl, hr⟩
    · obtain ⟨T, hT⟩ : ∃ T, T = ansL ⟨es, a, b, z⟩ (gs ls k) := ⟨_, rfl⟩
      have HT := Lib.hid hT
      have HON := Lib.hid (show oneL r (gs ls k) = T by rw [hr, hT]; rfl)
      have hTl : T.length ≤ 10 := by rw [← HON.out]; exact HOL.out
      have HV := Lib.hid (HOK.out _ hr)
      obtain ⟨zn, hzn⟩ : ∃ z, z = TB T := ⟨_, rfl⟩
      have HZN := Lib.hid hzn
      have HPO := Lib.hid (HPW.out.below (HB4.out.trans (HB.out.mono HB4.out.size)))
      clear hT hzn hr
      go_wp2_with fail
      refine (answerOf_any B _ _ _ es a b z (gs ls k) zl HZL.out wo HPO.out heo (by omega) HV.out (by omega)).mono ?_
      rw [← HT.out, ← HZN.out]
      rintro e w6 ⟨rfl, b6⟩
      have HB6 := Lib.hid (HB.out.trans (b6.mono hso))
      have HK6 := Lib.hid (HK.out.below b6)
      have hz6 : q < w6.heap.size := by have := b6.size; omega
      clear b6 HK HB
      go_wp2_with fail
      refine (WriteString_any q q _ T zn HZN.out w6 HK6.out (by omega) (by omega)).mono ?_
      rintro e w7 ⟨rfl, hk7, b7⟩
      have HB7 := Lib.hid (HB6.out.trans (b7.mono hq2))
      have HK7 := Lib.hid hk7
      have hz7 : q < w7.heap.size := by
        rcases hk7 with h9 | h9
        · exact h9.lt
        · exact h9.lt
      clear b7 hk7 HK6
      go_wp2_with fail
      refine (WriteByte_any q q _ 10 10 rfl w7 HK7.out (by rw [List.length_append]; omega) (by omega)).mono ?_
      rintro e w8 ⟨rfl, hk8, b8⟩
      have HB8 := Lib.hid (HB7.out.trans (b8.mono hq2))
      have HK8 := Lib.hid (show Bld q q (deskL r (ls.take (k + 1))) w8 by rw [HTK.out, HON.out, ← List.append_assoc]; exact hk8)
      have hlt8 : q < w8.heap.size := by
        rcases hk8 with h9 | h9
        · exact h9.lt
        · exact h9.lt
      have hj8 : (deskL r (ls.take (k + 1))).length ≤ 11 * (k + 1) := by rw [HTK.out, List.length_append, List.length_append, List.length_singleton, HON.out]; omega
      clear b8 hk8 HK7
      go_wp2
      go_roundw
      case rel => exact ⟨k + 1, hlt, by go_num, HK8.out, HB8.out, hlt8, hj8⟩
      case measure => simp [intOf]; omega
    · have HON := Lib.hid (show oneL r (gs ls k) = wClosed by rw [hr]; rfl)
      obtain ⟨zn, hzn⟩ : ∃ z : ByteArray, z = ⟨#[99, 108, 111, 115, 101, 100]⟩ := ⟨_, rfl⟩
      have HZN := Lib.hid (show (⟨#[99, 108, 111, 115, 101, 100]⟩ : ByteArray) = TB wClosed from rfl)
      have hwl : wClosed.length = 6 := rfl
      clear hr hzn zn
      go_wp2_with fail
      refine (WriteString_any q q _ wClosed _ HZN.out wo HK.out (by omega) (by omega)).mono ?_
      rintro e w7 ⟨rfl, hk7, b7⟩
      have HB7 := Lib.hid (HB.out.trans (b7.mono hq2))
      have HK7 := Lib.hid hk7
      have hz7 : q < w7.heap.size := by
        rcases hk7 with h9 | h9
        · exact h9.lt
        · exact h9.lt
      clear b7 hk7 HK HB
      go_wp2_with fail
      refine (WriteByte_any q q _ 10 10 rfl w7 HK7.out (by rw [List.length_append]; omega) (by omega)).mono ?_
      rintro e w8 ⟨rfl, hk8, b8⟩
      have HB8 := Lib.hid (HB7.out.trans (b8.mono hq2))
      have HK8 := Lib.hid (show Bld q q (deskL r (ls.take (k + 1))) w8 by rw [HTK.out, HON.out, ← List.append_assoc]; exact hk8)
      have hlt8 : q < w8.heap.size := by
        rcases hk8 with h9 | h9
        · exact h9.lt
        · exact h9.lt
      have hj8 : (deskL r (ls.take (k + 1))).length ≤ 11 * (k + 1) := by rw [HTK.out, List.length_append, List.length_append, List.length_singleton, HON.out]; omega
      clear b8 hk8 HK7
      go_wp2
      go_roundw
      case rel => exact ⟨k + 1, hlt, by go_num, HK8.out, HB8.out, hlt8, hj8⟩
      case measure => simp [intOf]; omega
end Go.Proofs.YtkgepklapglmdaaGreatDoor
