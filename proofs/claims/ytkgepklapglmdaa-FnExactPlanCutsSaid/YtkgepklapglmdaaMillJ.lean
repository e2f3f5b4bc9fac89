/-
  Lemmas and contracts of single functions of this program, used by the proofs of its laws: what each call returns and what becomes of memory. Conditions: the hypotheses of each theorem.
-/
import Derived.Test.YtkgepklapglmdaaMillI
namespace Go.Proofs.Ytkgepklapglmdaa
open Go.RowKit
attribute [local go_sem ↓] Go.wp_at_zero Go.wp_at_succ

theorem closE_any (a0 W L lb : Int) (A2 B2 : Option Addr) (n c n2 c2 B : Nat) (w : World) (hB : w.cell? ⟨B, 0, none⟩ = some (.int .i64 lb)) :
    Calls Try.prog 68 #[.agg #[.int .i64 a0, .int .i64 W, .int .i64 L, .slice A2 n c, .slice B2 n2 c2], .pointer (some ⟨B, 0, none⟩)] w fun e w' => e = .returned (.bool (a0 == lb)) ∧ Below w.heap.size w w' := by
  have hz := World.block_lt_of_cell? w _ hB
  have hB2 := keepB ((Below.refl w.heap.size w).alloc (Nat.le_refl _) (.cells #[.int .i64 a0, .int .i64 W, .int .i64 L, .slice A2 n c, .slice B2 n2 c2] 56)) hB
  cases he : (a0 == lb)
  all_goals
    go_enter Try.func68, Try.ntmps68
    go_wp2
    go_ret
    exact ⟨rfl, (Below.refl _ _).alloc (Nat.le_refl _) _⟩
set_option maxHeartbeats 1000000 in
theorem IndexFuncE_any (lo hi : Nat) (v : Value) (es : List Ent) (lb : Int) (B : Nat) (w : World) (h : ES w lo hi v es) (hhi : hi ≤ w.heap.size) (hB : w.cell? ⟨B, 0, none⟩ = some (.int .i64 lb)) :
    Calls Try.prog 67 #[v, .func (.func 68) #[] #[.pointer (some ⟨B, 0, none⟩)]] w fun e w' => e = .returned (.int .i64 (entI es lb)) ∧ Below w.heap.size w w' := by
  obtain ⟨A, c, rfl, hc, hm⟩ := h.form
  go_enter Try.func67, Try.ntmps67
  go_wp2
  go_loopw [8] (fun i wr => ∃ k : Nat, k ≤ es.length ∧ i = .int .i64 k ∧ Below w.heap.size w wr ∧ Hid (entI es lb = plcFrom ((lbs es).drop k) lb k)) (fun i _ => es.length - (intOf i).toNat)
  case atStart => exact ⟨0, by omega, rfl, Below.refl _ _, rfl⟩
  case round =>
    obtain ⟨k, hk, rfl, bw, hno⟩ := hrel
    have hB1 := keepB bw hB
    have hz := bw.size
    by_cases hlt : k < es.length
    · obtain ⟨b9, o, Ad, cd, Ap, cp, rfl, _, _, e0, e1, e2, e3, e4, _⟩ := (h.below bw hhi).cell hlt
      have hk0 : (0 : Int) ≤ (k : Int) := by omega
      have hk1 : (k : Int) < (es.length : Int) := by omega
      have Hno := Lib.hid (hno.out.trans (by rw [lbs_drop hlt, plcFrom]))
      clear hno
      go_wp2_with fail
      refine (closE_any _ _ _ lb _ _ _ _ _ _ B wr hB1).mono ?_
      by_cases he : (ge es k).lb = lb
      · have hb9 : ((ge es k).lb == lb) = true := beq_t he
        have HR := Lib.hid (show entI es lb = (k : Int) by rw [Hno.out, if_pos he])
        clear he
        rw [hb9]
        rintro e w2 ⟨rfl, b2⟩
        go_wp2
        go_ret
        exact ⟨ret_int (by rw [HR.out]), bw.trans (b2.mono hz)⟩
      · have hb9 : ((ge es k).lb == lb) = false := beq_f he
        have HR : Hid (entI es lb = plcFrom ((lbs es).drop (k + 1)) lb (k + 1)) := Hno.out.trans (if_neg he)
        clear he
        rw [hb9]
        rintro e w2 ⟨rfl, b2⟩
        go_wp2
        go_roundw
        case rel => exact ⟨k + 1, by omega, by go_num, bw.trans (b2.mono hz), HR⟩
        case measure => simp [intOf]; omega
    · have Hno := Lib.hid (hno.out.trans (by rw [lbs_end (by omega), plcFrom]))
      clear hno
      go_wp2
      go_ret
      exact ⟨ret_int Hno.out.symm, bw⟩
set_option maxHeartbeats 1000000 in
theorem iEntryOf_any (lo hi : Nat) (v : Value) (es : List Ent) (a b z lb : Int) (w : World) (h : ES w lo hi v es) (hhi : hi ≤ w.heap.size) :
    Calls Try.prog 33 #[.agg #[v, .int .i64 a, .int .i64 b, .int .i64 z], .int .i64 lb] w fun e w' => e = .returned (.int .i64 (entI es lb)) ∧ Below w.heap.size w w' := by
  obtain ⟨A, c, rfl, hc, hm⟩ := h.form
  have hes : ∀ w1, Below w.heap.size w w1 → ES w1 lo hi (.slice A es.length c) es := fun w1 hb => h.below hb hhi
  have hmf : ∀ (fn : Fn) (first cap : Array Value) (w : World), (Instr.makeFunc fn first cap).run Try.prog w = .ok (.func fn first cap) w := fun _ _ _ _ => rfl
  have Hs := Lib.hid (show ∃ w1, w1 = ((w.alloc (.cells #[.slice A es.length c, .int .i64 a, .int .i64 b, .int .i64 z] 32)).alloc (.cells #[.int .i64 lb] 3)) ∧ Below w.heap.size w w1 ∧ w1.cell? ⟨w.heap.size, 0, none⟩ = some (.slice A es.length c) ∧ w1.cell? ⟨w.heap.size, 1, none⟩ = some (.int .i64 a) ∧ w1.cell? ⟨w.heap.size, 2, none⟩ = some (.int .i64 b) ∧ w1.cell? ⟨w.heap.size, 3, none⟩ = some (.int .i64 z) ∧ w1.cell? ⟨w.heap.size + 1, 0, none⟩ = some (.int .i64 lb) ∧ w.heap.size + 1 < w1.heap.size from by
    have hb : Below w.heap.size w ((w.alloc (.cells #[.slice A es.length c, .int .i64 a, .int .i64 b, .int .i64 z] 32)).alloc (.cells #[.int .i64 lb] 3)) := ((Below.refl _ _).alloc (Nat.le_refl _) _).alloc (by simp) _
    exact ⟨_, rfl, hb, by go_simp, by go_simp, by go_simp, by go_simp, by go_simp, by simp⟩)
  go_enter Try.func33, Try.ntmps33
  go_wp2_with fail
  obtain ⟨w1, hw1, hb0, c00, c01, c02, c03, c10, hz⟩ := Hs.out
  rw [← hw1]
  clear hw1 Hs
  refine (IndexFuncE_any lo hi _ es lb _ w1 (hes w1 hb0) (by omega) c10).mono ?_
  rintro e w2 ⟨rfl, b2⟩
  go_wp2
  go_ret
  exact ⟨rfl, hb0.trans (b2.mono (by omega))⟩
end Go.Proofs.Ytkgepklapglmdaa
