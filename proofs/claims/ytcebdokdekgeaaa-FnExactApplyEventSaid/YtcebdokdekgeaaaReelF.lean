/-
  Lemmas and contracts of single functions of this program, used by the proofs of its laws: what each call returns and what becomes of memory. Conditions: the hypotheses of each theorem.
-/
import Derived.Test.YtcebdokdekgeaaaReelE
import Derived.Test.YtcebdokdekgeaaaReelV
namespace Go.Proofs.Ytcebdokdekgeaaa
open Go.RowKit
attribute [local go_sem ↓] Go.wp_at_zero Go.wp_at_succ

def mT (d p : List Int) : Bool := meetB (gi d 0) (gi d 1) (gi d 2) (gi d 3) (gi p 0) (gi p 1) (gi p 2) (gi p 3)
def worstL (ds : List (List Int)) (p : List Int) : Int := ds.foldl (fun m d => if mT d p = true then max m (gi d 4) else m) 0
theorem worst_succ {ds : List (List Int)} {p : List Int} {k : Nat} (h : k < ds.length) : worstL (ds.take (k + 1)) p = if mT (gr ds k) p = true then max (worstL (ds.take k) p) (gi (gr ds k) 4) else worstL (ds.take k) p := by
  unfold worstL; rw [take_gr h, List.foldl_append]; rfl
theorem meetB_comm (a b c d a' b' c' d' : Int) : meetB a b c d a' b' c' d' = meetB a' b' c' d' a b c d := by
  rw [Bool.eq_iff_iff, meetB_iff, meetB_iff]; omega
set_option maxRecDepth 100000 in
set_option maxHeartbeats 1000000 in
theorem worst_any (lo hi : Nat) (W L : Int) (v : Value) (ds : List (List Int)) (l r f t : Int) (w : World) (h : TS w lo hi 5 v ds) (hhi : hi ≤ w.heap.size) :
    Calls Try.prog 95 #[.agg #[.int .i64 W, .int .i64 L, v], .agg #[.int .i64 l, .int .i64 r, .int .i64 f, .int .i64 t]] w fun e w' => e = .returned (.int .i64 (worstL ds [l, r, f, t])) ∧ Below w.heap.size w w' := by
  obtain ⟨A, c, rfl, hc, hm⟩ := h.form
  have Hs := Lib.hid (show ∃ w1, w1 = (w.alloc (.cells #[.int .i64 W, .int .i64 L, .slice A ds.length c] 32)).alloc (.cells #[.int .i64 l, .int .i64 r, .int .i64 f, .int .i64 t] 38) ∧ Below w.heap.size w w1 ∧ w1.cell? ⟨w.heap.size, 2, none⟩ = some (.slice A ds.length c) ∧ w1.cell? ⟨w.heap.size + 1, 0, none⟩ = some (.int .i64 l) ∧ w1.cell? ⟨w.heap.size + 1, 1, none⟩ = some (.int .i64 r) ∧ w1.cell? ⟨w.heap.size + 1, 2, none⟩ = some (.int .i64 f) ∧ w1.cell? ⟨w.heap.size + 1, 3, none⟩ = some (.int .i64 t) ∧ TS w1 lo hi 5 (.slice A ds.length c) ds ∧ w.heap.size + 1 < w1.heap.size from by
    have hb : Below w.heap.size w ((w.alloc (.cells #[.int .i64 W, .int .i64 L, .slice A ds.length c] 32)).alloc (.cells #[.int .i64 l, .int .i64 r, .int .i64 f, .int .i64 t] 38)) := ((Below.refl _ _).alloc (Nat.le_refl _) _).alloc (by simp) _
    refine ⟨_, rfl, hb, by go_simp, by go_simp, by go_simp, by go_simp, by go_simp, h.below hb hhi, by simp⟩)
  go_enter Try.func95, Try.ntmps95
  go_wp2
  obtain ⟨w1, hw1, hb0, c0, p0, p1, p2, p3, h0, hz⟩ := Hs.out
  rw [← hw1]
  clear hw1 Hs h
  go_loopw [5, 6] (fun m i wr => ∃ k : Nat, k ≤ ds.length ∧ i = .int .i64 k ∧ m = .int .i64 (worstL (ds.take k) [l, r, f, t]) ∧ Below w1.heap.size w1 wr) (fun _ i _ => ds.length - (intOf i).toNat)
  case atStart => exact ⟨0, by omega, rfl, rfl, Below.refl _ _⟩
  case round =>
    obtain ⟨k, hk, rfl, rfl, bw⟩ := hrel
    have c0r := keepB bw c0
    have hzr := bw.size
    by_cases hlt : k < ds.length
    · have q0 := keepB bw p0
      have q1 := keepB bw p1
      have q2 := keepB bw p2
      have q3 := keepB bw p3
      obtain ⟨b, o, rfl, hb2, hb3, e0, e1, e2, e3, e4⟩ := (h0.below bw (by omega)).c5 hlt
      have Hst := Lib.hid (show worstL (ds.take (k + 1)) [l, r, f, t] = if meetB (gi (gr ds k) 0) (gi (gr ds k) 1) (gi (gr ds k) 2) (gi (gr ds k) 3) l r f t = true then _ else _ from worst_succ (p := [l, r, f, t]) hlt)
      have hk0 : (0 : Int) ≤ (k : Int) := by omega
      have hk1 : (k : Int) < (ds.length : Int) := by omega
      have h0a : ∀ x ∈ ds, ∀ y ∈ x, I64 y := fun x hx => (h0.all x hx).2
      clear h0 c0 p0 p1 p2 p3
      go_wp2
      go_region_held3 (fun w' => w'.cell? ⟨w.heap.size, 2, none⟩ = some (.slice (some ⟨b, o, none⟩) ds.length c) ∧ w'.cell? ⟨w.heap.size + 1, 0, none⟩ = some (.int .i64 l) ∧ w'.cell? ⟨w.heap.size + 1, 1, none⟩ = some (.int .i64 r) ∧ w'.cell? ⟨w.heap.size + 1, 2, none⟩ = some (.int .i64 f) ∧ w'.cell? ⟨w.heap.size + 1, 3, none⟩ = some (.int .i64 t) ∧ w'.cell? ⟨b, o + k * 5, none⟩ = some (.int .i64 (gi (gr ds k) 0)) ∧ w'.cell? ⟨b, o + k * 5 + 1, none⟩ = some (.int .i64 (gi (gr ds k) 1)) ∧ w'.cell? ⟨b, o + k * 5 + 2, none⟩ = some (.int .i64 (gi (gr ds k) 2)) ∧ w'.cell? ⟨b, o + k * 5 + 3, none⟩ = some (.int .i64 (gi (gr ds k) 3)) ∧ w'.cell? ⟨b, o + k * 5 + 4, none⟩ = some (.int .i64 (gi (gr ds k) 4))) (first | go_keep | (go_split_ands; refine ⟨?_, ?_, ?_, ?_, ?_, ?_, ?_, ?_, ?_, ?_⟩ <;> exact keepB bx1 (by assumption))) (first | (go_at_call 107; refine (meets_any _ _ _ _ _ _ _ _ _ _).mono ?_; rintro e x1 ⟨rfl, bx1⟩))
      have bx2 := of_drew bx1
      obtain ⟨g2, _, _, _, _, _, _, _, _, g4⟩ := ‹x1.cell? ⟨w.heap.size, 2, none⟩ = _ ∧ _›
      have i4 := gi_i64 (h0a _ (gr_mem hlt)) 4
      go_wp2
      all_goals
        go_roundw
        case rel => exact ⟨k + 1, by omega, by go_num, congrArg (Value.int .i64) (by rw [Hst.out]; split <;> first | omega | (simp_all; done)), bw.trans (bx2.mono (by omega))⟩
        case measure => simp [intOf]; omega
    · have He := Lib.hid (show k = ds.length by omega)
      go_wp2
      go_ret
      exact ⟨ret_int (by rw [He.out, List.take_length]), hb0.trans (bw.mono (by omega))⟩
end Go.Proofs.Ytcebdokdekgeaaa
