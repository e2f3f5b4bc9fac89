/-
  Lemmas and contracts of single functions of this program, used by the proofs of its laws: what each call returns and what becomes of memory. Conditions: the hypotheses of each theorem.
-/
import Derived.Test.YtodbgkflakfjpaaDrawR
namespace Go.Proofs.Ytodbgkflakfjpaa
open Go.RowKit
attribute [local go_sem ↓] Go.wp_at_zero Go.wp_at_succ

theorem OwnT.grown {w w' : World} {base e k g : Nat} {v : Value} {xs : List (List Int)} (h : OwnT w base e k v xs) (hg : w.grownBy w' (some g)) (hlt : g < base) : OwnT w' base e k v xs :=
  h.kept (Kept.of_grown hg (Nat.le_refl _) (.inl hlt))
theorem keepA {base : Nat} {v v' : Value} {W w1 : World} {a : Addr} {u : Value} (h : Grew base v v' W w1) (hlt : a.block < W.heap.size) (hne : v.ownBlock = some a.block → False) (hc : W.cell? a = some u) : w1.cell? a = some u :=
  (World.cell?_of_block (h.other a.block hlt fun e => hne e.symm)).trans hc
theorem Rdr.grew {base : Nat} {v u u' : Value} {W w1 : World} {B k g : Nat} (h : Rdr W B k g v) (hg : Grew base u u' W w1) (hlt : g < base) : Rdr w1 B k g v := by
  have h0 := h.lt
  exact h.kept (hg.below.block g hlt) fun j _ hj => hg.below.block j (by omega)
theorem grown_then {a b c : World} {B g : Nat} (h : a.grownBy b (some g)) (k : Below B b c) (hB : a.heap.size ≤ B) : a.grownBy c (some g) :=
  ⟨k.os.trans h.os, k.tape.trans h.tape, k.output.trans h.output, Nat.le_trans h.size k.size, fun i hi hn => (k.block i (by omega)).trans (h.block i hi hn)⟩
theorem i64_5 {a b c d e : Int} (ha : I64 a) (hb : I64 b) (hc : I64 c) (hd : I64 d) (he : I64 e) : ∀ n ∈ [a, b, c, d, e], I64 n := fun n hn => by
  simp only [List.mem_cons, List.not_mem_nil, or_false] at hn
  rcases hn with rfl | rfl | rfl | rfl | rfl <;> assumption
set_option maxRecDepth 100000 in
set_option maxHeartbeats 4000000 in
theorem someReel_any (B k g : Nat) (v : Value) (w : World) (h : Rdr w B k g v) (hk : k ≤ 800000) :
    Calls Try.prog 118 #[v] w fun e w' => ∃ (W L : Int) (u : Value) (ds : List (List Int)) (k' : Nat), e = .returned (.agg #[.int .i64 W, .int .i64 L, u]) ∧ (1 ≤ W ∧ W ≤ 24 ∧ 1 ≤ L ∧ L ≤ 50) ∧ OwnT w' w.heap.size 68 5 u ds ∧ ds.length ≤ 5 ∧ Rdr w' B k' g v ∧ k' ≤ k + 100 ∧ w.grownBy w' (some g) := by
  have hg0 := h.lt
  have Hs := Lib.hid (show ∃ w1, w1 = (w.alloc (.cells #[.int .i64 0, .int .i64 0, .slice none 0 0] 30)) ∧ Below w.heap.size w w1 ∧ w1.cell? ⟨w.heap.size, 0, none⟩ = some (.int .i64 0) ∧ w1.cell? ⟨w.heap.size, 1, none⟩ = some (.int .i64 0) ∧ w1.cell? ⟨w.heap.size, 2, none⟩ = some (.slice none 0 0) ∧ w1.frozen? ⟨w.heap.size, 0, none⟩ = false ∧ w1.frozen? ⟨w.heap.size, 1, none⟩ = false ∧ w1.frozen? ⟨w.heap.size, 2, none⟩ = false ∧ w.heap.size < w1.heap.size from by
    have hb : Below w.heap.size w (w.alloc (.cells #[.int .i64 0, .int .i64 0, .slice none 0 0] 30)) := (Below.refl _ _).alloc (Nat.le_refl _) _
    exact ⟨_, rfl, hb, by go_simp, by go_simp, by go_simp, by go_simp, by go_simp, by go_simp, by simp⟩)
  have hr1 : ∀ w1, Below w.heap.size w w1 → Rdr w1 B k g v := fun w1 hb => h.below hb
  go_enter Try.func118, Try.ntmps118
  go_wp2_with fail
  obtain ⟨w1, hw1, hb0, c00, c01, c02, f00, f01, f02, hz⟩ := Hs.out
  have HZ := Lib.hid (show w1.heap.size = w.heap.size + 1 by rw [hw1]; simp)
  rw [← hw1]
  clear hw1 Hs
  have hr := hr1 w1 hb0
  clear hr1 h
  have hgr := grown_below hb0 (some g)
  refine (one_lit B k g v [12, 10, 20, 6, 1, 24] w1 _ _ _ hr (by omega) rfl rfl HZ.out.symm (by simp) (by simp) (by unfold I64; simp)).mono ?_
  rintro e w2 ⟨W, rfl, hW, hr2, bg1⟩
  have hW1 : 1 ≤ W ∧ W ≤ 24 := by simp only [List.mem_cons, List.not_mem_nil, or_false] at hW; omega
  replace c00 := keepW bg1 (by first | (simp; done) | (simp; omega)) c00; replace c01 := keepW bg1 (by first | (simp; done) | (simp; omega)) c01; replace c02 := keepW bg1 (by first | (simp; done) | (simp; omega)) c02
  replace f00 := keepWF bg1 (by first | (simp; done) | (simp; omega)) f00; replace f01 := keepWF bg1 (by first | (simp; done) | (simp; omega)) f01; replace f02 := keepWF bg1 (by first | (simp; done) | (simp; omega)) f02
  have hgr2 := grown_trans hgr bg1
  have hz2 := bg1.size
  clear hW hr bg1 hgr
  go_wp2_with fail
  refine (one_lit B (k + 1) g v [30, 20, 50, 10, 1] w2 _ _ _ hr2 (by omega) rfl rfl rfl (by simp) (by simp) (by unfold I64; simp)).mono ?_
  rintro e w3 ⟨L, rfl, hL, hr3, bg1⟩
  have hL1 : 1 ≤ L ∧ L ≤ 50 := by simp only [List.mem_cons, List.not_mem_nil, or_false] at hL; omega
  replace c00 := keepW bg1 (by first | (simp; done) | (simp; omega)) c00; replace c01 := keepW bg1 (by first | (simp; done) | (simp; omega)) c01; replace c02 := keepW bg1 (by first | (simp; done) | (simp; omega)) c02
  replace f00 := keepWF bg1 (by first | (simp; done) | (simp; omega)) f00; replace f01 := keepWF bg1 (by first | (simp; done) | (simp; omega)) f01; replace f02 := keepWF bg1 (by first | (simp; done) | (simp; omega)) f02
  have hgr3 := grown_trans hgr2 bg1
  have hz3 : w.heap.size < w3.heap.size := by have := bg1.size; omega
  clear hL hr2 bg1 hgr2 hz2
  go_wp2_with fail
  obtain ⟨w4, hw1⟩ : ∃ w4, w4 = w3.alloc (.cells #[.int .i64 W, .int .i64 L, .slice none 0 0] 30) := ⟨_, rfl⟩
  have x0 : w4.cell? ⟨w3.heap.size, 0, none⟩ = some (.int .i64 W) := by rw [hw1]; go_simp
  have x1 : w4.cell? ⟨w3.heap.size, 1, none⟩ = some (.int .i64 L) := by rw [hw1]; go_simp
  have x2 : w4.cell? ⟨w3.heap.size, 2, none⟩ = some (.slice none 0 0) := by rw [hw1]; go_simp
  have bx : Below w3.heap.size w3 w4 := by rw [hw1]; exact (Below.refl _ _).alloc (Nat.le_refl _) _
  have zx : w3.heap.size < w4.heap.size := by rw [hw1]; simp
  have HZx := Lib.hid (show w4.heap.size = w3.heap.size + 1 by rw [hw1]; simp)
  have fx0 : w4.frozen? ⟨w3.heap.size, 0, none⟩ = false := by rw [hw1]; go_simp
  have fx1 : w4.frozen? ⟨w3.heap.size, 1, none⟩ = false := by rw [hw1]; go_simp
  have fx2 : w4.frozen? ⟨w3.heap.size, 2, none⟩ = false := by rw [hw1]; go_simp
  have Hx := Lib.hid (show w4.heap[w3.heap.size]? = some (.cells #[.int .i64 W, .int .i64 L, .slice none 0 0] 30) by rw [hw1]; exact heap_alloc_new w3 _)
  rw [← hw1]
  clear hw1
  replace c00 := keepB bx c00; replace c01 := keepB bx c01; replace c02 := keepB bx c02
  replace f00 := keepF bx (by first | (simp; done) | (simp; omega)) f00; replace f01 := keepF bx (by first | (simp; done) | (simp; omega)) f01; replace f02 := keepF bx (by first | (simp; done) | (simp; omega)) f02
  have hr4 := hr3.below bx
  have hgr4 := grown_trans hgr3 (grown_below bx (some g))
  clear bx hr3 hgr3
  refine (one_lit B (k + 1 + 1) g v [2, 3, 1, 0, 5] w4 _ _ _ hr4 (by omega) rfl rfl HZx.out.symm (by simp) (by simp) (by unfold I64; simp)).mono ?_
  rintro e w5 ⟨n0, rfl, hn, hr5, bg1⟩
  have hn0 : 0 ≤ n0 ∧ n0 ≤ 5 := by simp only [List.mem_cons, List.not_mem_nil, or_false] at hn; omega
  obtain ⟨n0, rfl⟩ := Int.eq_ofNat_of_zero_le hn0.1
  replace c00 := keepW bg1 (by first | (simp; done) | (simp; omega)) c00; replace c01 := keepW bg1 (by first | (simp; done) | (simp; omega)) c01; replace c02 := keepW bg1 (by first | (simp; done) | (simp; omega)) c02; replace x0 := keepW bg1 (by first | (simp; done) | (simp; omega)) x0; replace x1 := keepW bg1 (by first | (simp; done) | (simp; omega)) x1; replace x2 := keepW bg1 (by first | (simp; done) | (simp; omega)) x2
  replace f00 := keepWF bg1 (by first | (simp; done) | (simp; omega)) f00; replace f01 := keepWF bg1 (by first | (simp; done) | (simp; omega)) f01; replace f02 := keepWF bg1 (by first | (simp; done) | (simp; omega)) f02; replace fx0 := keepWF bg1 (by first | (simp; done) | (simp; omega)) fx0; replace fx1 := keepWF bg1 (by first | (simp; done) | (simp; omega)) fx1; replace fx2 := keepWF bg1 (by first | (simp; done) | (simp; omega)) fx2
  have hgr5 := grown_trans hgr4 bg1
  have hz5 : w3.heap.size + 1 ≤ w5.heap.size := by have := bg1.size; have := HZx.out; omega
  clear hn hr4 bg1 hgr4 zx fx0 fx1
  go_wp2_with fail
  go_loopw [4] (fun i wr => ∃ (n k' : Nat) (u : Value) (ds : List (List Int)), i = .int .i64 n ∧ n ≤ 5 ∧ ds.length + n ≤ 5 ∧ k' + 5 * n ≤ k + 3 + 25 ∧ Rdr wr B k' g v ∧ w.grownBy wr (some g) ∧ OwnT wr (w3.heap.size + 1) 68 5 u ds ∧ w3.heap.size + 1 ≤ wr.heap.size ∧ wr.cell? ⟨w3.heap.size, 0, none⟩ = some (.int .i64 W) ∧ wr.cell? ⟨w3.heap.size, 1, none⟩ = some (.int .i64 L) ∧ wr.cell? ⟨w3.heap.size, 2, none⟩ = some u ∧ wr.frozen? ⟨w3.heap.size, 2, none⟩ = false ∧ wr.cell? ⟨w.heap.size, 0, none⟩ = some (.int .i64 0) ∧ wr.cell? ⟨w.heap.size, 1, none⟩ = some (.int .i64 0) ∧ wr.cell? ⟨w.heap.size, 2, none⟩ = some (.slice none 0 0) ∧ wr.frozen? ⟨w.heap.size, 0, none⟩ = false ∧ wr.frozen? ⟨w.heap.size, 1, none⟩ = false ∧ wr.frozen? ⟨w.heap.size, 2, none⟩ = false) (fun i _ => (intOf i).toNat)
  case atStart => exact ⟨n0, k + 3, _, [], rfl, by omega, by simp; omega, by omega, hr5, hgr5, OwnT.nil _ _ _ _, hz5, x0, x1, x2, fx2, c00, c01, c02, f00, f01, f02⟩
  case round =>
    clear hr5 hgr5 hz5 x0 x1 x2 fx2 c00 c01 c02 f00 f01 f02 HZx
    obtain ⟨n, k', u, ds, rfl, hn5, hdn, hkk, hr, hgr, ho, hzr, x0, x1, x2, fx2, c00, c01, c02, f00, f01, f02⟩ := hrel
    by_cases hlt : 0 < n
    · obtain ⟨n1, rfl⟩ : ∃ n1, n = n1 + 1 := ⟨n - 1, by omega⟩
      have hltI : (0 : Int) < (n1 : Int) + 1 := by omega
      have hg1 : g < w3.heap.size + 1 := by omega
      go_wp2_with fail
      refine (somePart_any B k' g v W L wr hr (by omega) (by omega) (by omega) (by omega) (by omega)).mono ?_
      rintro e wa ⟨l, r, f, t, rfl, hb, hra, bg1⟩
      replace c00 := keepW bg1 (by first | (simp; done) | (simp; omega)) c00; replace c01 := keepW bg1 (by first | (simp; done) | (simp; omega)) c01; replace c02 := keepW bg1 (by first | (simp; done) | (simp; omega)) c02; replace x0 := keepW bg1 (by first | (simp; done) | (simp; omega)) x0; replace x1 := keepW bg1 (by first | (simp; done) | (simp; omega)) x1; replace x2 := keepW bg1 (by first | (simp; done) | (simp; omega)) x2
      replace f00 := keepWF bg1 (by first | (simp; done) | (simp; omega)) f00; replace f01 := keepWF bg1 (by first | (simp; done) | (simp; omega)) f01; replace f02 := keepWF bg1 (by first | (simp; done) | (simp; omega)) f02; replace fx2 := keepWF bg1 (by first | (simp; done) | (simp; omega)) fx2
      have hoa := ho.grown bg1 hg1
      have hgra := grown_trans hgr bg1
      have hza := bg1.size
      obtain ⟨A, c, rfl, hc, hm⟩ := hoa.form
      clear hr ho bg1 hgr
      go_wp2_with fail
      obtain ⟨wb, hw1⟩ : ∃ wb, wb = wa.alloc (.cells #[.int .i64 l, .int .i64 r, .int .i64 f, .int .i64 t] 58) := ⟨_, rfl⟩
      have p0 : wb.cell? ⟨wa.heap.size, 0, none⟩ = some (.int .i64 l) := by rw [hw1]; go_simp
      have p1 : wb.cell? ⟨wa.heap.size, 1, none⟩ = some (.int .i64 r) := by rw [hw1]; go_simp
      have p2 : wb.cell? ⟨wa.heap.size, 2, none⟩ = some (.int .i64 f) := by rw [hw1]; go_simp
      have p3 : wb.cell? ⟨wa.heap.size, 3, none⟩ = some (.int .i64 t) := by rw [hw1]; go_simp
      have bp : Below wa.heap.size wa wb := by rw [hw1]; exact (Below.refl _ _).alloc (Nat.le_refl _) _
      have zp : wa.heap.size < wb.heap.size := by rw [hw1]; simp
      rw [← hw1]
      clear hw1
      replace c00 := keepB bp c00; replace c01 := keepB bp c01; replace c02 := keepB bp c02; replace x0 := keepB bp x0; replace x1 := keepB bp x1; replace x2 := keepB bp x2
      replace f00 := keepF bp (by first | (simp; done) | (simp; omega)) f00; replace f01 := keepF bp (by first | (simp; done) | (simp; omega)) f01; replace f02 := keepF bp (by first | (simp; done) | (simp; omega)) f02; replace fx2 := keepF bp (by first | (simp; done) | (simp; omega)) fx2
      have hob := hoa.kept (.of_below bp (Nat.le_refl _))
      have hlo := hoa.lt
      have hrb := (hra.below bp).drew
      have hgrb := grown_trans hgra (grown_below bp (some g))
      clear hra hoa hgra bp
      have g1 : IntKind.i64.wrap (l + 4) = l + 4 := IntWalk.i64_in _ (by omega)
      have g2 : IntKind.i64.wrap (f + 6) = f + 6 := IntWalk.i64_in _ (by omega)
      refine wp_region_last (S := fun w' => w'.cell? ⟨w3.heap.size, 2, none⟩ = some (.slice A ds.length c) ∧ w'.cell? ⟨wa.heap.size, 0, none⟩ = some (.int .i64 l) ∧ w'.cell? ⟨wa.heap.size, 1, none⟩ = some (.int .i64 r) ∧ w'.cell? ⟨wa.heap.size, 2, none⟩ = some (.int .i64 f) ∧ w'.cell? ⟨wa.heap.size, 3, none⟩ = some (.int .i64 t)) 25 (by kernel_rfl) ?_ (fun hHeld => ?_)
      · (first | (try dsimp only); go_keep | (go_split_ands; refine ⟨?_, ?_, ?_, ?_, ?_⟩ <;> first | exact keepB bx5 (by assumption) | exact keepB bx4 (by assumption) | exact keepB bx3 (by assumption) | exact keepB bx2 (by assumption) | exact keepB bx1 (by assumption) | exact keepO bo5 (by first | (simp; done) | (simp; omega)) (by assumption) | exact keepO bo4 (by first | (simp; done) | (simp; omega)) (by assumption) | exact keepO bo3 (by first | (simp; done) | (simp; omega)) (by assumption) | exact keepO bo2 (by first | (simp; done) | (simp; omega)) (by assumption) | exact keepO bo1 (by first | (simp; done) | (simp; omega)) (by assumption) | exact keepW bg2 (by first | (simp; done) | (simp; omega)) (by assumption) | exact keepW bg1 (by first | (simp; done) | (simp; omega)) (by assumption) | assumption))
      refine AnyL.take (i := 0) (oi := ⟨some 26, _, _, _, _, _⟩) (v := _) rfl (by kernel_rfl) (by kernel_rfl) (by kernel_rfl) (by kernel_rfl) (fun _ _ _ h => h) (Or.inl ⟨by kernel_rfl, by intro w hSw; (try dsimp only at hSw); go_simp; try with_reducible rfl⟩) (by assumption) ?_
      simp only [Act.put, List.setIfInBounds_toArray, List.set_cons_zero, List.set_cons_succ]
      refine AnyL.take (i := 1) (oi := ⟨some 27, _, _, _, _, _⟩) (v := _) rfl (by kernel_rfl) (by kernel_rfl) (by kernel_rfl) (by kernel_rfl) (fun _ _ _ h => h) (Or.inl ⟨by kernel_rfl, by intro w hSw; (try dsimp only at hSw); go_simp; try with_reducible rfl⟩) (by assumption) ?_
      simp only [Act.put, List.setIfInBounds_toArray, List.set_cons_zero, List.set_cons_succ]
      refine AnyL.take (i := 2) (oi := ⟨some 28, _, _, _, _, _⟩) (v := _) rfl (by kernel_rfl) (by kernel_rfl) (by kernel_rfl) (by kernel_rfl) (fun _ _ _ h => h) (Or.inl ⟨by kernel_rfl, by intro w hSw; (try dsimp only at hSw); go_simp; try with_reducible rfl⟩) (by assumption) ?_
      simp only [Act.put, List.setIfInBounds_toArray, List.set_cons_zero, List.set_cons_succ]
      refine AnyL.take (i := 3) (oi := ⟨some 29, _, _, _, _, _⟩) (v := _) rfl (by kernel_rfl) (by kernel_rfl) (by kernel_rfl) (by kernel_rfl) (fun _ _ _ h => h) (Or.inl ⟨by kernel_rfl, by intro w hSw; (try dsimp only at hSw); go_simp; try with_reducible rfl⟩) (by assumption) ?_
      simp only [Act.put, List.setIfInBounds_toArray, List.set_cons_zero, List.set_cons_succ]
      refine AnyL.take (i := 4) (oi := ⟨some 30, _, _, _, _, _⟩) (v := _) rfl (by kernel_rfl) (by kernel_rfl) (by kernel_rfl) (by kernel_rfl) (fun _ _ _ h => h) (Or.inl ⟨by kernel_rfl, by intro w hSw; (try dsimp only at hSw); go_simp; try with_reducible rfl⟩) (by assumption) ?_
      simp only [Act.put, List.setIfInBounds_toArray, List.set_cons_zero, List.set_cons_succ]
      refine AnyL.take (i := 5) (oi := ⟨some 31, _, _, _, _, _⟩) (v := _) rfl (by kernel_rfl) (by kernel_rfl) (by kernel_rfl) (by kernel_rfl) (fun _ _ _ h => h) (Or.inl ⟨by kernel_rfl, by intro w hSw; (try dsimp only at hSw); go_simp; try with_reducible rfl⟩) (by assumption) ?_
      simp only [Act.put, List.setIfInBounds_toArray, List.set_cons_zero, List.set_cons_succ]
      refine AnyL.take (i := 6) (oi := ⟨some 32, _, _, _, _, _⟩) (v := _) rfl (by kernel_rfl) (by kernel_rfl) (by kernel_rfl) (by kernel_rfl) (fun _ _ _ h => h) (Or.inl ⟨by kernel_rfl, by intro w hSw; (try dsimp only at hSw); go_simp; try with_reducible rfl⟩) (by assumption) ?_
      simp only [Act.put, List.setIfInBounds_toArray, List.set_cons_zero, List.set_cons_succ]
      refine AnyL.take (i := 7) (oi := ⟨some 33, _, _, _, _, _⟩) (v := _) rfl (by kernel_rfl) (by kernel_rfl) (by kernel_rfl) (by kernel_rfl) (fun _ _ _ h => h) (Or.inl ⟨by kernel_rfl, by intro w hSw; (try dsimp only at hSw); go_simp; try with_reducible rfl⟩) (by assumption) ?_
      simp only [Act.put, List.setIfInBounds_toArray, List.set_cons_zero, List.set_cons_succ]
      refine AnyL.take (i := 8) (oi := ⟨some 34, _, _, _, _, _⟩) (v := _) rfl (by kernel_rfl) (by kernel_rfl) (by kernel_rfl) (by kernel_rfl) (fun _ _ _ h => h) (Or.inl ⟨by kernel_rfl, by intro w hSw; (try dsimp only at hSw); go_simp; try with_reducible rfl⟩) (by assumption) ?_
      simp only [Act.put, List.setIfInBounds_toArray, List.set_cons_zero, List.set_cons_succ]
      refine AnyL.take (i := 9) (oi := ⟨some 35, _, _, _, _, _⟩) (v := _) rfl (by kernel_rfl) (by kernel_rfl) (by kernel_rfl) (by kernel_rfl) (fun _ _ _ h => h) (Or.inl ⟨by kernel_rfl, by intro w hSw; (try dsimp only at hSw); go_simp; try with_reducible rfl⟩) (by assumption) ?_
      simp only [Act.put, List.setIfInBounds_toArray, List.set_cons_zero, List.set_cons_succ]
      refine AnyL.take (i := 10) (oi := ⟨some 36, _, _, _, _, _⟩) (v := _) rfl (by kernel_rfl) (by kernel_rfl) (by kernel_rfl) (by kernel_rfl) (fun _ _ _ h => h) (Or.inl ⟨by kernel_rfl, by intro w hSw; (try dsimp only at hSw); go_simp; try with_reducible rfl⟩) (by assumption) ?_
      simp only [Act.put, List.setIfInBounds_toArray, List.set_cons_zero, List.set_cons_succ]
      refine AnyL.take (i := 11) (oi := ⟨some 37, _, _, _, _, _⟩) (v := _) rfl (by kernel_rfl) (by kernel_rfl) (by kernel_rfl) (by kernel_rfl) (fun _ _ _ h => h) (Or.inl ⟨by kernel_rfl, by intro w hSw; (try dsimp only at hSw); go_simp; try with_reducible rfl⟩) (by assumption) ?_
      simp only [Act.put, List.setIfInBounds_toArray, List.set_cons_zero, List.set_cons_succ]
      refine AnyL.take (i := 12) (oi := ⟨some 38, _, _, _, _, _⟩) (v := _) rfl (by kernel_rfl) (by kernel_rfl) (by kernel_rfl) (by kernel_rfl) (fun _ _ _ h => h) (Or.inl ⟨by kernel_rfl, by intro w hSw; (try dsimp only at hSw); go_simp; try with_reducible rfl⟩) (by assumption) ?_
      simp only [Act.put, List.setIfInBounds_toArray, List.set_cons_zero, List.set_cons_succ]
      refine AnyL.take (i := 13) (oi := ⟨some 39, _, _, _, _, _⟩) (v := _) rfl (by kernel_rfl) (by kernel_rfl) (by kernel_rfl) (by kernel_rfl) (fun _ _ _ h => h) (Or.inl ⟨by kernel_rfl, by intro w hSw; (try dsimp only at hSw); go_simp; try with_reducible rfl⟩) (by assumption) ?_
      simp only [Act.put, List.setIfInBounds_toArray, List.set_cons_zero, List.set_cons_succ]
      refine AnyL.take (i := 14) (oi := ⟨some 40, _, _, _, _, _⟩) (v := _) rfl (by kernel_rfl) (by kernel_rfl) (by kernel_rfl) (by kernel_rfl) (fun _ _ _ h => h) (Or.inl ⟨by kernel_rfl, by intro w hSw; (try dsimp only at hSw); go_simp; try with_reducible rfl⟩) (by assumption) ?_
      simp only [Act.put, List.setIfInBounds_toArray, List.set_cons_zero, List.set_cons_succ]
      refine AnyL.take (i := 15) (oi := ⟨some 41, _, _, _, _, _⟩) (v := _) rfl (by kernel_rfl) (by kernel_rfl) (by kernel_rfl) (by kernel_rfl) (fun _ _ _ h => h) (Or.inl ⟨by kernel_rfl, by intro w hSw; (try dsimp only at hSw); go_simp; try with_reducible rfl⟩) (by assumption) ?_
      simp only [Act.put, List.setIfInBounds_toArray, List.set_cons_zero, List.set_cons_succ]
      refine AnyL.take (i := 16) (oi := ⟨some 42, _, _, _, _, _⟩) (v := _) rfl (by kernel_rfl) (by kernel_rfl) (by kernel_rfl) (by kernel_rfl) (fun _ _ _ h => h) (Or.inl ⟨by kernel_rfl, by intro w hSw; (try dsimp only at hSw); go_simp; try with_reducible rfl⟩) (by assumption) ?_
      simp only [Act.put, List.setIfInBounds_toArray, List.set_cons_zero, List.set_cons_succ]
      refine AnyL.take (i := 17) (oi := ⟨some 43, _, _, _, _, _⟩) (v := _) rfl (by kernel_rfl) (by kernel_rfl) (by kernel_rfl) (by kernel_rfl) (fun _ _ _ h => h) (Or.inl ⟨by kernel_rfl, by intro w hSw; (try dsimp only at hSw); go_simp; try with_reducible rfl⟩) (by assumption) ?_
      simp only [Act.put, List.setIfInBounds_toArray, List.set_cons_zero, List.set_cons_succ]
      refine AnyL.take (i := 18) (oi := ⟨some 44, _, _, _, _, _⟩) (v := _) rfl (by kernel_rfl) (by kernel_rfl) (by kernel_rfl) (by kernel_rfl) (fun _ _ _ h => h) (Or.inl ⟨by kernel_rfl, by intro w hSw; (try dsimp only at hSw); go_simp; try with_reducible rfl⟩) (by assumption) ?_
      simp only [Act.put, List.setIfInBounds_toArray, List.set_cons_zero, List.set_cons_succ]
      refine AnyL.one (i := 19) (o := ⟨some 45, _, _, _, _, _⟩) (by kernel_rfl) rfl (fun K hK => ?_)
      go_simp
      go_at_call 93
      refine (pick_any B (k' + 4) g v 9 _ hrb (by omega) (by omega)).mono ?_
      rintro e wc ⟨y, rfl, hy, hrc, bo1⟩
      have hy1 := hy.rng (m := 9) (by omega) (by omega)
      have bo2 := only_drew bo1
      have g3 : IntKind.i64.wrap (1 + y) = 1 + y := IntWalk.i64_in _ (by omega)
      replace c00 := keepO bo2 (by first | (simp; done) | (simp; omega)) c00; replace c01 := keepO bo2 (by first | (simp; done) | (simp; omega)) c01; replace c02 := keepO bo2 (by first | (simp; done) | (simp; omega)) c02; replace x0 := keepO bo2 (by first | (simp; done) | (simp; omega)) x0; replace x1 := keepO bo2 (by first | (simp; done) | (simp; omega)) x1; replace x2 := keepO bo2 (by first | (simp; done) | (simp; omega)) x2; replace p0 := keepO bo2 (by first | (simp; done) | (simp; omega)) p0; replace p1 := keepO bo2 (by first | (simp; done) | (simp; omega)) p1; replace p2 := keepO bo2 (by first | (simp; done) | (simp; omega)) p2; replace p3 := keepO bo2 (by first | (simp; done) | (simp; omega)) p3
      replace f00 := keepOF bo2 (by first | (simp; done) | (simp; omega)) f00; replace f01 := keepOF bo2 (by first | (simp; done) | (simp; omega)) f01; replace f02 := keepOF bo2 (by first | (simp; done) | (simp; omega)) f02; replace fx2 := keepOF bo2 (by first | (simp; done) | (simp; omega)) fx2
      have hoc := hob.kept (bo2.kept (.inr (by omega)))
      go_wp2_with fail
      refine hK.out _ _ ?_ (fun hHeld2 => ?_)
      · (first | (try dsimp only); go_keep | (go_split_ands; refine ⟨?_, ?_, ?_, ?_, ?_⟩ <;> first | exact keepB bx5 (by assumption) | exact keepB bx4 (by assumption) | exact keepB bx3 (by assumption) | exact keepB bx2 (by assumption) | exact keepB bx1 (by assumption) | exact keepO bo5 (by first | (simp; done) | (simp; omega)) (by assumption) | exact keepO bo4 (by first | (simp; done) | (simp; omega)) (by assumption) | exact keepO bo3 (by first | (simp; done) | (simp; omega)) (by assumption) | exact keepO bo2 (by first | (simp; done) | (simp; omega)) (by assumption) | exact keepO bo1 (by first | (simp; done) | (simp; omega)) (by assumption) | exact keepW bg2 (by first | (simp; done) | (simp; omega)) (by assumption) | exact keepW bg1 (by first | (simp; done) | (simp; omega)) (by assumption) | assumption))
      clear hK K hHeld
      have hHeld := hHeld2
      clear hHeld2
      try simp only [Act.put, List.setIfInBounds_toArray, List.set_cons_zero, List.set_cons_succ]
      refine AnyL.take (i := 20) (oi := ⟨some 46, _, _, _, _, _⟩) (v := _) rfl (by kernel_rfl) (by kernel_rfl) (by kernel_rfl) (by kernel_rfl) (fun _ _ _ h => h) (Or.inl ⟨by kernel_rfl, by intro w hSw; (try dsimp only at hSw); go_simp; try with_reducible rfl⟩) (by assumption) ?_
      simp only [Act.put, List.setIfInBounds_toArray, List.set_cons_zero, List.set_cons_succ]
      refine AnyL.take (i := 21) (oi := ⟨some 47, _, _, _, _, _⟩) (v := _) rfl (by kernel_rfl) (by kernel_rfl) (by kernel_rfl) (by kernel_rfl) (fun _ _ _ h => h) (Or.inl ⟨by kernel_rfl, by intro w hSw; (try dsimp only at hSw); go_simp; try with_reducible rfl⟩) (by assumption) ?_
      simp only [Act.put, List.setIfInBounds_toArray, List.set_cons_zero, List.set_cons_succ]
      refine AnyL.one (i := 22) (o := ⟨some 48, _, _, _, _, _⟩) (by kernel_rfl) rfl (fun K hK => ?_)
      go_simp
      refine hK.out _ _ ?_ (fun hHeld2 => ?_)
      · (first | (try dsimp only); go_keep | (go_split_ands; refine ⟨?_, ?_, ?_, ?_, ?_⟩ <;> first | exact keepB bx5 (by assumption) | exact keepB bx4 (by assumption) | exact keepB bx3 (by assumption) | exact keepB bx2 (by assumption) | exact keepB bx1 (by assumption) | exact keepO bo5 (by first | (simp; done) | (simp; omega)) (by assumption) | exact keepO bo4 (by first | (simp; done) | (simp; omega)) (by assumption) | exact keepO bo3 (by first | (simp; done) | (simp; omega)) (by assumption) | exact keepO bo2 (by first | (simp; done) | (simp; omega)) (by assumption) | exact keepO bo1 (by first | (simp; done) | (simp; omega)) (by assumption) | exact keepW bg2 (by first | (simp; done) | (simp; omega)) (by assumption) | exact keepW bg1 (by first | (simp; done) | (simp; omega)) (by assumption) | assumption))
      clear hK K hHeld
      have hHeld := hHeld2
      clear hHeld2
      try simp only [Act.put, List.setIfInBounds_toArray, List.set_cons_zero, List.set_cons_succ]
      refine AnyL.one (i := 23) (o := ⟨some 49, _, _, _, _, _⟩) (by kernel_rfl) rfl (fun K hK => ?_)
      refine step_appendT SlDefect wc rfl (.tmp 27) (.tmp 48) rfl [l, min r (l + 4), f, min t (f + 6), 1 + y] _ rfl (w3.heap.size + 1) _ ds (by rfl) (by rfl) hoc ⟨rfl, i64_5 ⟨by omega, by omega⟩ ⟨by omega, by omega⟩ ⟨by omega, by omega⟩ ⟨by omega, by omega⟩ ⟨by omega, by omega⟩⟩ (by omega) (by omega) (by have := bo2.size; omega) ?_
      intro u2 wd ho2 hg2
      obtain ⟨A9, c9, rfl, hc9, hm9⟩ := ho2.form
      have bA := hg2.below
      replace c00 := keepC bA (by first | (simp; done) | (simp; omega)) c00; replace c01 := keepC bA (by first | (simp; done) | (simp; omega)) c01; replace c02 := keepC bA (by first | (simp; done) | (simp; omega)) c02; replace x0 := keepC bA (by first | (simp; done) | (simp; omega)) x0; replace x1 := keepC bA (by first | (simp; done) | (simp; omega)) x1; replace x2 := keepC bA (by first | (simp; done) | (simp; omega)) x2
      replace f00 := keepF bA (by first | (simp; done) | (simp; omega)) f00; replace f01 := keepF bA (by first | (simp; done) | (simp; omega)) f01; replace f02 := keepF bA (by first | (simp; done) | (simp; omega)) f02; replace fx2 := keepF bA (by first | (simp; done) | (simp; omega)) fx2
      have hpl : wa.heap.size < wc.heap.size := by have := bo2.size; omega
      have p0 := keepA hg2 hpl (fun e => by have := (hlo _ e).2; simp at this) p0
      have p1 := keepA hg2 hpl (fun e => by have := (hlo _ e).2; simp at this) p1
      have p2 := keepA hg2 hpl (fun e => by have := (hlo _ e).2; simp at this) p2
      have p3 := keepA hg2 hpl (fun e => by have := (hlo _ e).2; simp at this) p3
      refine hK.out _ _ ?_ (fun hHeld2 => ?_)
      · (first | (try dsimp only); go_keep | (go_split_ands; refine ⟨?_, ?_, ?_, ?_, ?_⟩ <;> first | exact keepB bx5 (by assumption) | exact keepB bx4 (by assumption) | exact keepB bx3 (by assumption) | exact keepB bx2 (by assumption) | exact keepB bx1 (by assumption) | exact keepO bo5 (by first | (simp; done) | (simp; omega)) (by assumption) | exact keepO bo4 (by first | (simp; done) | (simp; omega)) (by assumption) | exact keepO bo3 (by first | (simp; done) | (simp; omega)) (by assumption) | exact keepO bo2 (by first | (simp; done) | (simp; omega)) (by assumption) | exact keepO bo1 (by first | (simp; done) | (simp; omega)) (by assumption) | exact keepW bg2 (by first | (simp; done) | (simp; omega)) (by assumption) | exact keepW bg1 (by first | (simp; done) | (simp; omega)) (by assumption) | assumption))
      clear hK K hHeld
      have hHeld := hHeld2
      clear hHeld2
      try simp only [Act.put, List.setIfInBounds_toArray, List.set_cons_zero, List.set_cons_succ]
      refine AnyL.take (i := 24) (oi := ⟨some 50, _, _, _, _, _⟩) (v := _) rfl (by kernel_rfl) (by kernel_rfl) (by kernel_rfl) (by kernel_rfl) (fun _ _ _ h => h) (Or.inl ⟨by kernel_rfl, by intro w hSw; (try dsimp only at hSw); go_simp; try with_reducible rfl⟩) (by assumption) ?_
      simp only [Act.put, List.setIfInBounds_toArray, List.set_cons_zero, List.set_cons_succ]
      refine AnyL.last (o := ⟨none, _, _, _, _, _⟩) (by kernel_rfl) rfl (by kernel_rfl) (fun K hK => ?_)
      go_simp
      refine hK.out _ _ ?_
      clear hK K hHeld
      have hrd := hrc.grew hg2 (by omega)
      have hgrd : w.grownBy wd (some g) := grown_then (grown_trans hgrb (grown_only bo2)) hg2.below (by omega)
      have hzd : w3.heap.size + 1 ≤ wd.heap.size := by have := hg2.size; have := bo2.size; omega
      clear g1 g2 g3 hy hrb hgrb hob hoc hrc p0 p1 p2 p3 bo1 bo2 hg2 bA
      go_wp2
      go_roundw
      case rel =>
        refine ⟨n1, k' + 5, _, _, by go_num, by omega, by rw [List.length_append]; simp; omega, by omega, hrd.set ⟨by show B ≤ w3.heap.size; omega, by show ¬ w3.heap.size = g; omega⟩ _, grown_setCell hgrd (by show w.heap.size ≤ w3.heap.size; omega) _, ho2.setBelow (by show w3.heap.size < _; omega) _, by simp only [World.setCell, Array.size_modify]; exact hzd, ?_⟩
        have hne : ¬ w3.heap.size = w.heap.size := by omega
        refine ⟨by go_simp, by go_simp, by go_simp, by go_simp, by go_simp, by go_simp, by go_simp, by go_simp, by go_simp, by go_simp⟩
      case measure => simp [intOf]
    · obtain rfl : n = 0 := by omega
      have Ho := Lib.hid ho
      obtain ⟨A, c, rfl, hc, hm⟩ := ho.form
      clear ho
      go_wp2
      refine bodyPost_ret (v := .agg #[.int .i64 W, .int .i64 L, .slice A ds.length c]) (by simp [results, Try.results118, go_sem, *]) rfl ⟨W, L, _, ds, k', rfl, by omega, ?_, by omega, ?_, by omega, ?_⟩
      · exact (((Ho.out.setBelow (by show w.heap.size < _; omega) _).setBelow (by show w.heap.size < _; omega) _).setBelow (by show w.heap.size < _; omega) _).base (by omega)
      · exact ((hr.set ⟨by show B ≤ w.heap.size; omega, by show ¬ w.heap.size = g; omega⟩ _).set ⟨by show B ≤ w.heap.size; omega, by show ¬ w.heap.size = g; omega⟩ _).set ⟨by show B ≤ w.heap.size; omega, by show ¬ w.heap.size = g; omega⟩ _
      · exact grown_setCell (grown_setCell (grown_setCell hgr (Nat.le_refl _) _) (Nat.le_refl _) _) (Nat.le_refl _) _
end Go.Proofs.Ytodbgkflakfjpaa
