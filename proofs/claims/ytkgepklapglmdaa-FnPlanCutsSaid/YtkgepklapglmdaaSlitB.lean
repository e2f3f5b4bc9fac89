/-
  Lemmas and contracts of single functions of this program, used by the proofs of its laws: what each call returns and what becomes of memory. Conditions: the hypotheses of each theorem.
-/
import Derived.Test.YtkgepklapglmdaaSlitA
import Derived.Test.YtkgepklapglmdaaMReel
namespace Go.Proofs.Ytkgepklapglmdaa
open Go.RowKit
attribute [local go_sem ↓] Go.wp_at_zero Go.wp_at_succ

def sumI (xs : List Int) : Nat → Int
  | 0 => 0
  | k + 1 => sumI xs k + gi xs k
theorem sumI_rng {xs : List Int} {n : Nat} {b : Int} (h : ∀ i, i < n → 0 ≤ gi xs i ∧ gi xs i ≤ b) : ∀ {k : Nat}, k ≤ n → 0 ≤ sumI xs k ∧ sumI xs k ≤ b * k
  | 0, _ => by simp [sumI]
  | k + 1, hk => by
    have h1 := sumI_rng h (k := k) (by omega)
    have h2 := h k (by omega)
    have h3 : b * ((k + 1 : Nat) : Int) = b * k + b := by rw [Int.natCast_succ, Int.mul_add, Int.mul_one]
    rw [h3]
    show 0 ≤ sumI xs k + gi xs k ∧ sumI xs k + gi xs k ≤ _
    omega
theorem slitT_sum {W : Int} {ws cs : List Int} (fr til : Int) (h : vPat W ws cs = true) : ∀ {k : Nat}, k ≤ cs.length → ((slitT ws cs fr til k).length : Int) = sumI cs k
  | 0, _ => rfl
  | k + 1, hk => by
    have h1 := slitT_sum fr til h (k := k) (by omega)
    have h2 := (vPat_iff.1 h).2.2.1 k (by omega)
    rw [slitT, List.length_append, rowsOf_len]
    show _ = sumI cs k + gi cs k
    omega
theorem ltotal_any (lo hi : Nat) (v : Value) (xs : List Int) (w : World) (h : Ints w lo hi v xs) (hl : xs.length ≤ 1000) (hb : ∀ i, i < xs.length → 0 ≤ gi xs i ∧ gi xs i ≤ 1000) :
    Calls Try.prog 21 #[v] w fun e w' => e = .returned (.int .i64 (sumI xs xs.length)) ∧ w = w' := by
  obtain ⟨A, c, rfl, hc, hm⟩ := h.form
  have HB := Lib.hid hb
  clear hb
  go_enter Try.func21, Try.ntmps21
  go_wp2
  go_loop [3, 4] (fun s i => ∃ k : Nat, k ≤ xs.length ∧ i = .int .i64 k ∧ s = .int .i64 (sumI xs k)) (fun _ i => xs.length - (intOf i).toNat)
  case atStart => exact ⟨0, by omega, rfl, rfl⟩
  case round =>
    obtain ⟨k, hk, rfl, rfl⟩ := hrel
    by_cases hlt : k < xs.length
    · obtain ⟨b, o, rfl, _, _, hcell, _⟩ := h.cell hlt
      have hs := sumI_rng HB.out hk
      have hx := HB.out k hlt
      go_wp2
      go_round
      case rel => exact ⟨k + 1, by omega, by go_num, rfl⟩
      case measure => simp [intOf]; omega
    · have He := Lib.hid (show k = xs.length by omega)
      go_wp2
      go_ret
      exact ⟨ret_int (by rw [He.out]), rfl⟩
theorem sumOf_any (lo hi : Nat) (v : Value) (xs : List Int) (w : World) (h : Ints w lo hi v xs) (hl : xs.length ≤ 1000) (hb : ∀ i, i < xs.length → 0 ≤ gi xs i ∧ gi xs i ≤ 1000) :
    Calls Try.prog 51 #[v] w fun e w' => e = .returned (.int .i64 (sumI xs xs.length)) ∧ w = w' := by
  obtain ⟨A, c, rfl, hc, hm⟩ := h.form
  have HB := Lib.hid hb
  clear hb
  go_enter Try.func51, Try.ntmps51
  go_wp2
  go_loop [3, 8] (fun s i => ∃ k : Nat, k ≤ xs.length ∧ i = .int .i64 k ∧ s = .int .i64 (sumI xs k)) (fun _ i => xs.length - (intOf i).toNat)
  case atStart => exact ⟨0, by omega, rfl, rfl⟩
  case round =>
    obtain ⟨k, hk, rfl, rfl⟩ := hrel
    by_cases hlt : k < xs.length
    · obtain ⟨b, o, rfl, _, _, hcell, _⟩ := h.cell hlt
      have hs := sumI_rng HB.out hk
      have hx := HB.out k hlt
      go_wp2
      go_round
      case rel => exact ⟨k + 1, by omega, by go_num, rfl⟩
      case measure => simp [intOf]; omega
    · have He := Lib.hid (show k = xs.length by omega)
      go_wp2
      go_ret
      exact ⟨ret_int (by rw [He.out]), rfl⟩
set_option maxHeartbeats 800000 in
theorem TrimOf_any (lo hi l2 h2 : Nat) (W : Int) (v u : Value) (ws cs : List Int) (w : World) (h : Ints w lo hi v ws) (hy : Ints w l2 h2 u cs) :
    Calls Try.prog 23 #[.int .i64 W, v, u] w fun e w' => e = .returned (.int .i64 (if vPat W ws cs = true then W - usedL ws cs cs.length else -1)) ∧ w = w' := by
  obtain ⟨A, c, rfl, hc, hm⟩ := h.form
  obtain ⟨B, d, rfl, hd, hm2⟩ := hy.form
  obtain ⟨R, hR⟩ : ∃ R, R = if vPat W ws cs = true then W - usedL ws cs cs.length else -1 := ⟨_, rfl⟩
  rw [← hR]
  have HR := Lib.hid hR
  clear hR
  go_enter Try.func23, Try.ntmps23
  go_wp2_with fail
  refine (ValidPattern_any lo hi l2 h2 W _ _ ws cs w h hy).mono ?_
  rintro e w1 ⟨rfl, rfl⟩
  cases hp : vPat W ws cs
  · have Hno := Lib.hid (show R = -1 by rw [HR.out, hp]; rfl)
    go_wp2
    go_ret
    exact ⟨ret_int Hno.out.symm, rfl⟩
  · have Hp := Lib.hid hp
    have Hyes := Lib.hid (show R = W - usedL ws cs cs.length by rw [HR.out, hp]; rfl)
    have hlw : cs.length ≤ ws.length := by have := (vPat_iff.1 hp).2.1; omega
    clear hp
    go_wp2
    go_loop [7, 18] (fun s i => ∃ k : Nat, k ≤ cs.length ∧ i = .int .i64 k ∧ s = .int .i64 (W - usedL ws cs k)) (fun _ i => cs.length - (intOf i).toNat)
    case atStart => exact ⟨0, by omega, rfl, by simp [usedL]⟩
    case round =>
      obtain ⟨k, hk, rfl, rfl⟩ := hrel
      by_cases hlt : k < cs.length
      · obtain ⟨b, o, rfl, _, _, hcell, _⟩ := h.cell (k := k) (by omega)
        obtain ⟨b2, o2, rfl, _, _, hcell2, _⟩ := hy.cell hlt
        have hk0 : (0 : Int) ≤ (k : Int) := by omega
        have hk1 : (k : Int) < (ws.length : Int) := by omega
        have u1 := pat_used Hp.out (k := k) hk
        have u2 := pat_used Hp.out (k := k + 1) hlt
        have hu : usedL ws cs (k + 1) = usedL ws cs k + gi cs k * gi ws k := rfl
        rw [hu] at u2
        have HU := Lib.hid hu
        clear hu
        obtain ⟨p, hp⟩ : ∃ p, gi cs k * gi ws k = p := ⟨_, rfl⟩
        have g1 : wrap64 (gi cs k * gi ws k) = p := by rw [hp] at u2 ⊢; unfold wrap64; omega
        rw [hp] at u2 HU
        have HP := Lib.hid hp
        clear hp
        go_wp2
        clear g1
        go_round
        case rel => exact ⟨k + 1, by omega, by go_num, congrArg (Value.int .i64) (by rw [HU.out]; omega)⟩
        case measure => simp [intOf]; omega
      · have He := Lib.hid (show k = cs.length by omega)
        go_wp2
        go_ret
        exact ⟨ret_int (by rw [Hyes.out, He.out]), rfl⟩
end Go.Proofs.Ytkgepklapglmdaa
