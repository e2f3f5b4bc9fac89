/-
  Lemmas and contracts of single functions of this program, used by the proofs of its laws: what each call returns and what becomes of memory. Conditions: the hypotheses of each theorem.
-/
import Derived.Test.YtodbgkflakfjpaaReelJ
import Derived.Test.YtodbgkflakfjpaaOwn
namespace Go.Proofs.Ytodbgkflakfjpaa
open Go.RowKit
attribute [local go_sem ↓] Go.wp_at_zero Go.wp_at_succ

/-- the numbers below n for which P holds, ascending -/
def selL (P : Nat → Bool) (n : Nat) : List Int := ((List.range n).filter P).map fun (i : Nat) => (i : Int)
theorem selL_succ {P : Nat → Bool} {n : Nat} : selL P (n + 1) = if P n = true then selL P n ++ [(n : Int)] else selL P n := by
  unfold selL
  rw [List.range_succ, List.filter_append, List.map_append]
  by_cases h : P n = true
  · rw [if_pos h]; simp [h]
  · rw [if_neg h]; simp [h]
theorem selL_len (P : Nat → Bool) (n : Nat) : (selL P n).length ≤ n := by
  unfold selL; rw [List.length_map]; exact Nat.le_trans (List.length_filter_le _ _) (by simp)
theorem selL_mem {P : Nat → Bool} {n : Nat} {x : Int} : x ∈ selL P n ↔ ∃ i : Nat, i < n ∧ P i = true ∧ x = (i : Int) := by
  unfold selL
  simp only [List.mem_map, List.mem_filter, List.mem_range]
  constructor
  · rintro ⟨i, ⟨a, b⟩, rfl⟩; exact ⟨i, a, b, rfl⟩
  · rintro ⟨i, a, b, rfl⟩; exact ⟨i, ⟨a, b⟩, rfl⟩
theorem selL_congr {P Q : Nat → Bool} {n : Nat} (h : ∀ i, i < n → P i = Q i) : selL P n = selL Q n := by
  unfold selL
  rw [List.filter_congr fun i hi => h i (List.mem_range.1 hi)]
def rwL (W L : Int) (ds ps : List (List Int)) (k : Int) : List Int := if vCuts W L ds ps = true ∧ 0 ≤ k ∧ k < ds.length then selL (fun i => mT (gr ps i) (gr ds k.toNat)) ps.length else []
def brL (W L : Int) (ds ps : List (List Int)) (m : Int) : List Int := if vCuts W L ds ps = true then selL (fun i => decide (m < worstL ds (gr ps i))) ps.length else []
theorem rwL_len (W L : Int) (ds ps : List (List Int)) (k : Int) (h : ps.length ≤ 1048576) : (rwL W L ds ps k).length ≤ 1048576 := by
  unfold rwL
  split
  · exact Nat.le_trans (selL_len _ _) h
  · simp
theorem brL_len (W L : Int) (ds ps : List (List Int)) (k : Int) (h : ps.length ≤ 1048576) : (brL W L ds ps k).length ≤ 1048576 := by
  unfold brL
  split
  · exact Nat.le_trans (selL_len _ _) h
  · simp
theorem keepC {B : Nat} {W w1 : World} {a : Addr} {v : Value} (hb : Below B W w1) (ha : a.block < B) (h : W.cell? a = some v) : w1.cell? a = some v := (hb.cell ha).trans h
theorem Grew.belowT {base : Nat} {v v' : Value} {a w w' : World} (h : Grew base v v' w w') (hb : Below base a w) : Below base a w' := hb.trans h.below

set_option maxRecDepth 100000 in
set_option maxHeartbeats 1600000 in
theorem rollsWith_any (l2 h2 : Nat) (u : Value) (ps : List (List Int)) (l r f t g : Int) (w : World) (hp : TS w l2 h2 4 u ps) (hh2 : h2 ≤ w.heap.size) (hl : ps.length ≤ 1048576) :
    Calls Try.prog 76 #[u, .agg #[.int .i64 l, .int .i64 r, .int .i64 f, .int .i64 t, .int .i64 g]] w fun e w' => ∃ v', e = .returned v' ∧ OwnI w' w.heap.size 3 v' (selL (fun i => mT (gr ps i) [l, r, f, t, g]) ps.length) ∧ Below w.heap.size w w' := by
  obtain ⟨B, c2, rfl, hc2, hm2⟩ := hp.form
  have Hs := Lib.hid (show ∃ w1, w1 = ((w.alloc (.cells #[.int .i64 l, .int .i64 r, .int .i64 f, .int .i64 t, .int .i64 g] 68)).alloc (.cells #[] 3)) ∧ Below w.heap.size w w1 ∧ w1.cell? ⟨w.heap.size, 0, none⟩ = some (.int .i64 l) ∧ w1.cell? ⟨w.heap.size, 1, none⟩ = some (.int .i64 r) ∧ w1.cell? ⟨w.heap.size, 2, none⟩ = some (.int .i64 f) ∧ w1.cell? ⟨w.heap.size, 3, none⟩ = some (.int .i64 t) ∧ w1.cell? ⟨w.heap.size, 4, none⟩ = some (.int .i64 g) ∧ TS w1 l2 h2 4 (.slice B ps.length c2) ps ∧ OwnI w1 (w.heap.size + 1) 3 (.slice (some ⟨w.heap.size + 1, 0, none⟩) 0 0) [] ∧ w.heap.size + 1 < w1.heap.size from by
    have hb : Below w.heap.size w ((w.alloc (.cells #[.int .i64 l, .int .i64 r, .int .i64 f, .int .i64 t, .int .i64 g] 68)).alloc (.cells #[] 3)) := ((Below.refl _ _).alloc (Nat.le_refl _) _).alloc (by simp) _
    exact ⟨_, rfl, hb, by go_simp, by go_simp, by go_simp, by go_simp, by go_simp, hp.below hb hh2, by have h := OwnI.empty ((w.alloc (.cells #[.int .i64 l, .int .i64 r, .int .i64 f, .int .i64 t, .int .i64 g] 68))) ((w.alloc (.cells #[.int .i64 l, .int .i64 r, .int .i64 f, .int .i64 t, .int .i64 g] 68))).heap.size 3 (Nat.le_refl _); simpa using h, by simp⟩)
  go_enter Try.func76, Try.ntmps76
  go_wp2_with (fail)
  obtain ⟨w1, hw1, hb0, c00, c01, c02, c03, c04, hT0, ho0, hz⟩ := Hs.out
  rw [← hw1]
  clear hw1 Hs
  clear hp
  go_loopw [5, 6] (fun v i wr => ∃ k : Nat, k ≤ ps.length ∧ i = .int .i64 k ∧ OwnI wr (w.heap.size + 1) 3 v (selL (fun i => mT (gr ps i) [l, r, f, t, g]) k) ∧ Below (w.heap.size + 1) w1 wr) (fun _ i _ => ps.length - (intOf i).toNat)
  case atStart => exact ⟨0, by omega, rfl, ho0, Below.refl _ _⟩
  case round =>
    obtain ⟨k, hk, rfl, ho, bw⟩ := hrel
    have hzr := bw.size
    by_cases hlt : k < ps.length
    · replace c00 := keepC bw (by first | (simp; done) | (simp; omega)) c00; replace c01 := keepC bw (by first | (simp; done) | (simp; omega)) c01; replace c02 := keepC bw (by first | (simp; done) | (simp; omega)) c02; replace c03 := keepC bw (by first | (simp; done) | (simp; omega)) c03; replace c04 := keepC bw (by first | (simp; done) | (simp; omega)) c04
      have hPr := hT0.below bw (by omega)
      obtain ⟨b, o, rfl, hb2, hb3, e0, e1, e2, e3⟩ := hPr.c4 hlt
      have hk0 : (0 : Int) ≤ (k : Int) := by omega
      have hk1 : (k : Int) < (ps.length : Int) := by omega
      have hsl := selL_len (fun i => mT (gr ps i) [l, r, f, t, g]) k
      have HS := Lib.hid (selL_succ (P := fun i => mT (gr ps i) [l, r, f, t, g]) (n := k))
      have Ho := Lib.hid ho
      obtain ⟨q, hq⟩ : ∃ q, q = selL (fun i => mT (gr ps i) [l, r, f, t, g]) k := ⟨_, rfl⟩
      rw [← hq] at HS Ho hsl
      clear hq ho hPr hT0
      go_wp2
      go_region_held3 (fun w' => w'.cell? ⟨w.heap.size, 0, none⟩ = some (.int .i64 l) ∧ w'.cell? ⟨w.heap.size, 1, none⟩ = some (.int .i64 r) ∧ w'.cell? ⟨w.heap.size, 2, none⟩ = some (.int .i64 f) ∧ w'.cell? ⟨w.heap.size, 3, none⟩ = some (.int .i64 t) ∧ w'.cell? ⟨w.heap.size, 4, none⟩ = some (.int .i64 g) ∧ w'.cell? ⟨b, o + k * 4, none⟩ = some (.int .i64 (gi (gr ps k) 0)) ∧ w'.cell? ⟨b, o + k * 4 + 1, none⟩ = some (.int .i64 (gi (gr ps k) 1)) ∧ w'.cell? ⟨b, o + k * 4 + 2, none⟩ = some (.int .i64 (gi (gr ps k) 2)) ∧ w'.cell? ⟨b, o + k * 4 + 3, none⟩ = some (.int .i64 (gi (gr ps k) 3))) (first | go_keep | (go_split_ands; refine ⟨?_, ?_, ?_, ?_, ?_, ?_, ?_, ?_, ?_⟩ <;> first | exact keepB bx5 (by assumption) | exact keepB bx4 (by assumption) | exact keepB bx3 (by assumption) | exact keepB bx2 (by assumption) | exact keepB bx1 (by assumption))) (first | (go_at_call 110; refine (meets_any _ _ _ _ _ _ _ _ _ _).mono ?_; rintro e x1 ⟨rfl, bx1⟩))
      have bx2 := of_drew bx1
      have hbw := bw.trans (bx2.mono (by omega))
      have hox := Ho.out.kept (.of_below bx2 (Nat.le_refl _))
      have hzx := bx2.size
      clear e0 e1 e2 e3 bx1 bx2 bw c00 c01 c02 c03 c04
      cases hd : meetB l r f t (gi (gr ps k) 0) (gi (gr ps k) 1) (gi (gr ps k) 2) (gi (gr ps k) 3)
      · have Hd := Lib.hid (show mT (gr ps k) [l, r, f, t, g] = false by show meetB _ _ _ _ l r f t = false; rw [meetB_comm]; exact hd)
        go_wp2
        go_roundw
        case rel => exact ⟨k + 1, by omega, by go_num, by rw [HS.out, if_neg (by rw [Hd.out]; simp)]; exact hox, hbw⟩
        case measure => simp [intOf]; omega
      · have Hd := Lib.hid (show mT (gr ps k) [l, r, f, t, g] = true by show meetB _ _ _ _ l r f t = true; rw [meetB_comm]; exact hd)
        go_wp2_with (at_builtin; refine wpList_appendI SlI _ rfl (.tmp 20) (.tmp 22) rfl _ (w.heap.size + 1) _ _ rfl rfl hox ⟨by omega, by omega⟩ (by omega) (by omega) ?_; intro v' w3 ho3 hg3)
        go_roundw
        case rel => exact ⟨k + 1, by omega, by go_num, by rw [HS.out, if_pos Hd.out]; exact ho3, hbw.trans hg3.below⟩
        case measure => simp [intOf]; omega
    · have He := Lib.hid (show k = ps.length by omega)
      go_wp2
      go_ret
      exact ⟨_, rfl, by rw [← He.out]; exact ho.base (by omega), hb0.trans (bw.mono (by omega))⟩
end Go.Proofs.Ytodbgkflakfjpaa
