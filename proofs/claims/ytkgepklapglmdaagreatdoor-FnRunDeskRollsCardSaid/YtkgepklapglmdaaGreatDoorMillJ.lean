/-
  Lemmas and contracts of single functions of this program, used by the proofs of its laws: what each call returns and what becomes of memory. Conditions: the hypotheses of each theorem.
-/
import Derived.Test.YtkgepklapglmdaaGreatDoorMillI
namespace Go.Proofs.YtkgepklapglmdaaGreatDoor
open Go.RowKit
attribute [local go_sem ↓] Go.wp_at_zero Go.wp_at_succ

theorem TS.nilLen {w : World} {lo hi k n c : Nat} {xss : List (List Int)} (h : TS w lo hi k (.slice none n c) xss) : xss = [] := by
  obtain ⟨A, c', e, _, _, hr, _⟩ := h
  injection e with e1 e2 e3
  rcases Nat.eq_zero_or_pos xss.length with h0 | h0
  · exact List.eq_nil_of_length_eq_zero h0
  · obtain ⟨b, o, e4, _⟩ := hr.2 h0
    rw [← e1] at e4
    cases e4
set_option maxRecDepth 100000 in
set_option maxHeartbeats 1000000 in
theorem CloneD_any (lo hi : Nat) (v : Value) (ds : List (List Int)) (w : World) (h : TS w lo hi 5 v ds) (hhi : hi ≤ w.heap.size) (hl : ds.length ≤ 1000000) :
    Calls Tryz.prog 83 #[v] w fun e w' => ∃ v', e = .returned v' ∧ OwnT w' w.heap.size 92 5 v' ds ∧ Below w.heap.size w w' := by
  obtain ⟨A, c, rfl, hc, hm⟩ := h.form
  have heq := fun (w : World) (a : Option Addr) (n c n' c' : Nat) => Lib.run_eql_slice_nil (P := Tryz.prog) w 53 92 a n c n' c' Tryz.underlying53
  cases A with
  | none =>
    have h0 := h.nilLen
    subst h0
    go_enter Tryz.func83, Tryz.ntmps83
    go_wp2
    go_ret
    exact ⟨_, rfl, OwnT.nil _ _ _ _, Below.refl _ _⟩
  | some a =>
    obtain ⟨ab, ao, asp⟩ := a
    have bx : Below w.heap.size w (w.alloc (.cells #[] 92)) := (Below.refl _ _).alloc (Nat.le_refl _) _
    have Hs := Lib.hid (h.below bx hhi)
    have HO := Lib.hid (OwnT.empty w w.heap.size 92 5 (Nat.le_refl _))
    have Hbx := Lib.hid bx
    clear h bx
    go_enter Tryz.func83, Tryz.ntmps83
    go_wp2_with (at_builtin; refine wpList_appendTs SlDefect _ rfl (.tmp 5) (.tmp 6) rfl lo hi _ w.heap.size _ [] ds rfl rfl HO.out Hs.out (by simp; omega) (by simp; omega) (by simp) ?_; intro v' w' ho hg)
    go_ret
    exact ⟨v', rfl, by rw [List.nil_append] at ho; exact ho, Hbx.out.trans hg.below⟩
set_option maxRecDepth 100000 in
set_option maxHeartbeats 1000000 in
theorem CloneP_any (lo hi : Nat) (v : Value) (ds : List (List Int)) (w : World) (h : TS w lo hi 4 v ds) (hhi : hi ≤ w.heap.size) (hl : ds.length ≤ 1000000) :
    Calls Tryz.prog 84 #[v] w fun e w' => ∃ v', e = .returned v' ∧ OwnT w' w.heap.size 38 4 v' ds ∧ Below w.heap.size w w' := by
  obtain ⟨A, c, rfl, hc, hm⟩ := h.form
  have heq := fun (w : World) (a : Option Addr) (n c n' c' : Nat) => Lib.run_eql_slice_nil (P := Tryz.prog) w 56 38 a n c n' c' Tryz.underlying56
  cases A with
  | none =>
    have h0 := h.nilLen
    subst h0
    go_enter Tryz.func84, Tryz.ntmps84
    go_wp2
    go_ret
    exact ⟨_, rfl, OwnT.nil _ _ _ _, Below.refl _ _⟩
  | some a =>
    obtain ⟨ab, ao, asp⟩ := a
    have bx : Below w.heap.size w (w.alloc (.cells #[] 38)) := (Below.refl _ _).alloc (Nat.le_refl _) _
    have Hs := Lib.hid (h.below bx hhi)
    have HO := Lib.hid (OwnT.empty w w.heap.size 38 4 (Nat.le_refl _))
    have Hbx := Lib.hid bx
    clear h bx
    go_enter Tryz.func84, Tryz.ntmps84
    go_wp2_with (at_builtin; refine wpList_appendTs SlPart _ rfl (.tmp 5) (.tmp 6) rfl lo hi _ w.heap.size _ [] ds rfl rfl HO.out Hs.out (by simp; omega) (by simp; omega) (by simp) ?_; intro v' w' ho hg)
    go_ret
    exact ⟨v', rfl, by rw [List.nil_append] at ho; exact ho, Hbx.out.trans hg.below⟩
theorem closE_any (a0 W L lb : Int) (A2 B2 : Option Addr) (n c n2 c2 B : Nat) (w : World) (hB : w.cell? ⟨B, 0, none⟩ = some (.int .i64 lb)) :
    Calls Tryz.prog 59 #[.agg #[.int .i64 a0, .int .i64 W, .int .i64 L, .slice A2 n c, .slice B2 n2 c2], .pointer (some ⟨B, 0, none⟩)] w fun e w' => e = .returned (.bool (a0 == lb)) ∧ Below w.heap.size w w' := by
  have hz := World.block_lt_of_cell? w _ hB
  have hB2 := keepB ((Below.refl w.heap.size w).alloc (Nat.le_refl _) (.cells #[.int .i64 a0, .int .i64 W, .int .i64 L, .slice A2 n c, .slice B2 n2 c2] 58)) hB
  cases he : (a0 == lb)
  all_goals
    go_enter Tryz.func59, Tryz.ntmps59
    go_wp2
    go_ret
    exact ⟨rfl, (Below.refl _ _).alloc (Nat.le_refl _) _⟩
set_option maxHeartbeats 1000000 in
theorem IndexFuncE_any (lo hi : Nat) (v : Value) (es : List Ent) (lb : Int) (B : Nat) (w : World) (h : ES w lo hi v es) (hhi : hi ≤ w.heap.size) (hB : w.cell? ⟨B, 0, none⟩ = some (.int .i64 lb)) :
    Calls Tryz.prog 58 #[v, .func (.func 59) #[] #[.pointer (some ⟨B, 0, none⟩)]] w fun e w' => e = .returned (.int .i64 (entI es lb)) ∧ Below w.heap.size w w' := by
  obtain ⟨A, c, rfl, hc, hm⟩ := h.form
  go_enter Tryz.func58, Tryz.ntmps58
  go_wp2
  go_loopw [8] (fun i wr => ∃ k : Nat, k ≤ es.length ∧ i = .int .i64 k ∧ Below w.heap.size w wr ∧ Hid (entI es lb = plcFrom ((lbs es).drop k) lb k)) (fun i _ => es.length - (intOf i).toNat)
  case atStart => exact ⟨0, by omega, rfl, Below.refl _ _, rfl⟩
  case round =>
    obtain ⟨k, hk, rfl, bw, hno⟩ := hrel
    have hB1 := keepB bw hB
    have hz := bw.size
    by_cases hlt : k < es.length
    · obtain ⟨b9, o, Ad, cd, Ap, cp, rfl, _, _, e0, e1, e2, e3, e4, _⟩ := (h.below bw hhi).cell hlt
      have hk0 : (0 : Int) ≤ (k : Int) := by omega
      have hk1 : (k : Int) < (es.length : Int) := by omega
      have Hno := Lib.hid (hno.out.trans (by rw [lbs_drop hlt, plcFrom]))
      clear hno
      go_wp2_with fail
      refine (closE_any _ _ _ lb _ _ _ _ _ _ B wr hB1).mono ?_
      by_cases he : (ge es k).lb = lb
      · have hb9 : ((ge es k).lb == lb) = true := beq_t he
        have HR := Lib.hid (show entI es lb = (k : Int) by rw [Hno.out, if_pos he])
        clear he
        rw [hb9]
        rintro e w2 ⟨rfl, b2⟩
        go_wp2
        go_ret
        exact ⟨ret_int (by rw [HR.out]), bw.trans (b2.mono hz)⟩
      · have hb9 : ((ge es k).lb == lb) = false := beq_f he
        have HR : Hid (entI es lb = plcFrom ((lbs es).drop (k + 1)) lb (k + 1)) := Hno.out.trans (if_neg he)
        clear he
        rw [hb9]
        rintro e w2 ⟨rfl, b2⟩
        go_wp2
        go_roundw
        case rel => exact ⟨k + 1, by omega, by go_num, bw.trans (b2.mono hz), HR⟩
        case measure => simp [intOf]; omega
    · have Hno := Lib.hid (hno.out.trans (by rw [lbs_end (by omega), plcFrom]))
      clear hno
      go_wp2
      go_ret
      exact ⟨ret_int Hno.out.symm, bw⟩
set_option maxHeartbeats 1000000 in
theorem iEntryOf_any (lo hi : Nat) (v : Value) (es : List Ent) (a b z lb : Int) (w : World) (h : ES w lo hi v es) (hhi : hi ≤ w.heap.size) :
    Calls Tryz.prog 30 #[.agg #[v, .int .i64 a, .int .i64 b, .int .i64 z], .int .i64 lb] w fun e w' => e = .returned (.int .i64 (entI es lb)) ∧ Below w.heap.size w w' := by
  obtain ⟨A, c, rfl, hc, hm⟩ := h.form
  have hes : ∀ w1, Below w.heap.size w w1 → ES w1 lo hi (.slice A es.length c) es := fun w1 hb => h.below hb hhi
  have hmf : ∀ (fn : Fn) (first cap : Array Value) (w : World), (Instr.makeFunc fn first cap).run Tryz.prog w = .ok (.func fn first cap) w := fun _ _ _ _ => rfl
  have Hs := Lib.hid (show ∃ w1, w1 = ((w.alloc (.cells #[.slice A es.length c, .int .i64 a, .int .i64 b, .int .i64 z] 25)).alloc (.cells #[.int .i64 lb] 3)) ∧ Below w.heap.size w w1 ∧ w1.cell? ⟨w.heap.size, 0, none⟩ = some (.slice A es.length c) ∧ w1.cell? ⟨w.heap.size, 1, none⟩ = some (.int .i64 a) ∧ w1.cell? ⟨w.heap.size, 2, none⟩ = some (.int .i64 b) ∧ w1.cell? ⟨w.heap.size, 3, none⟩ = some (.int .i64 z) ∧ w1.cell? ⟨w.heap.size + 1, 0, none⟩ = some (.int .i64 lb) ∧ w.heap.size + 1 < w1.heap.size from by
    have hb : Below w.heap.size w ((w.alloc (.cells #[.slice A es.length c, .int .i64 a, .int .i64 b, .int .i64 z] 25)).alloc (.cells #[.int .i64 lb] 3)) := ((Below.refl _ _).alloc (Nat.le_refl _) _).alloc (by simp) _
    exact ⟨_, rfl, hb, by go_simp, by go_simp, by go_simp, by go_simp, by go_simp, by simp⟩)
  go_enter Tryz.func30, Tryz.ntmps30
  go_wp2_with fail
  obtain ⟨w1, hw1, hb0, c00, c01, c02, c03, c10, hz⟩ := Hs.out
  rw [← hw1]
  clear hw1 Hs
  refine (IndexFuncE_any lo hi _ es lb _ w1 (hes w1 hb0) (by omega) c10).mono ?_
  rintro e w2 ⟨rfl, b2⟩
  go_wp2
  go_ret
  exact ⟨rfl, hb0.trans (b2.mono (by omega))⟩
end Go.Proofs.YtkgepklapglmdaaGreatDoor
