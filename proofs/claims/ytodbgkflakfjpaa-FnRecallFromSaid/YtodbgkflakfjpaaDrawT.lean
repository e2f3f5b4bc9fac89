/-
  Lemmas and contracts of single functions of this program, used by the proofs of its laws: what each call returns and what becomes of memory. Conditions: the hypotheses of each theorem.
-/
import Derived.Test.YtodbgkflakfjpaaDrawS
import Derived.Test.YtodbgkflakfjpaaReelI
namespace Go.Proofs.Ytodbgkflakfjpaa
open Go.RowKit
attribute [local go_sem ↓] Go.wp_at_zero Go.wp_at_succ

theorem OwnT.setT {w : World} {base e k : Nat} {v : Value} {xs : List (List Int)} (h : OwnT w base e k v xs) {p : Addr} (hp : ∀ g, v.ownBlock = some g → ¬ p.block = g) (u : Value) : OwnT (w.setCell p u) base e k v xs :=
  h.keptBlock fun g hg => by simp only [World.setCell, Array.getElem?_modify, if_neg (hp g hg)]
/-- an owned list of tuples lies in no block of another element type -/
theorem own_apartT {w : World} {base e e2 k p : Nat} {v : Value} {xs : List (List Int)} {cs : Array Value} (h : OwnT w base e k v xs) (hp : w.heap[p]? = some (.cells cs e2)) (hne : e ≠ e2) : ∀ g, v.ownBlock = some g → ¬ p = g := fun g hg e1 => by
  obtain ⟨cur, hc⟩ := own_home h.1 hg
  rw [← e1, hp] at hc
  injection hc with hc
  injection hc with _ h2
  exact hne h2.symm
set_option maxRecDepth 100000 in
set_option maxHeartbeats 4000000 in
theorem anyReel_any (B k g : Nat) (v : Value) (w : World) (h : Rdr w B k g v) (hk : k ≤ 700000) :
    Calls Try.prog 91 #[v] w fun e w' => ∃ (W L : Int) (u : Value) (ds : List (List Int)) (k' : Nat), e = .returned (.agg #[.int .i64 W, .int .i64 L, u]) ∧ (0 ≤ W ∧ W ≤ 61 ∧ 0 ≤ L ∧ L ≤ 401) ∧ OwnT w' w.heap.size 68 5 u ds ∧ ds.length ≤ 6 ∧ Rdr w' B k' g v ∧ k' ≤ k + 110 ∧ w.grownBy w' (some g) := by
  have hg0 := h.lt
  have Hs := Lib.hid (show ∃ w1, w1 = (w.alloc (.cells #[.int .i64 0, .int .i64 0, .slice none 0 0] 30)) ∧ Below w.heap.size w w1 ∧ w1.cell? ⟨w.heap.size, 0, none⟩ = some (.int .i64 0) ∧ w1.cell? ⟨w.heap.size, 1, none⟩ = some (.int .i64 0) ∧ w1.cell? ⟨w.heap.size, 2, none⟩ = some (.slice none 0 0) ∧ w1.frozen? ⟨w.heap.size, 0, none⟩ = false ∧ w1.frozen? ⟨w.heap.size, 1, none⟩ = false ∧ w1.frozen? ⟨w.heap.size, 2, none⟩ = false ∧ w.heap.size < w1.heap.size from by
    have hb : Below w.heap.size w (w.alloc (.cells #[.int .i64 0, .int .i64 0, .slice none 0 0] 30)) := (Below.refl _ _).alloc (Nat.le_refl _) _
    exact ⟨_, rfl, hb, by go_simp, by go_simp, by go_simp, by go_simp, by go_simp, by go_simp, by simp⟩)
  have hr1 : ∀ w1, Below w.heap.size w w1 → Rdr w1 B k g v := fun w1 hb => h.below hb
  go_enter Try.func91, Try.ntmps91
  go_wp2_with fail
  obtain ⟨w1, hw1, hb0, c00, c01, c02, f00, f01, f02, hz⟩ := Hs.out
  rw [← hw1]
  clear hw1 Hs
  have hr := hr1 w1 hb0
  clear hr1 h
  have hgr := grown_below hb0 (some g)
  refine (someReel_any B k g v w1 hr (by omega)).mono ?_
  rintro e w2 ⟨W, L, u, ds, k1, rfl, hb, ho, hdl, hr2, hk1, bg1⟩
  replace c00 := keepW bg1 (by first | (simp; done) | (simp; omega)) c00; replace c01 := keepW bg1 (by first | (simp; done) | (simp; omega)) c01; replace c02 := keepW bg1 (by first | (simp; done) | (simp; omega)) c02
  replace f00 := keepWF bg1 (by first | (simp; done) | (simp; omega)) f00; replace f01 := keepWF bg1 (by first | (simp; done) | (simp; omega)) f01; replace f02 := keepWF bg1 (by first | (simp; done) | (simp; omega)) f02
  have hgr2 := grown_trans hgr bg1
  have hz2 : w.heap.size < w2.heap.size := by have := bg1.size; omega
  have hz2b := bg1.size
  obtain ⟨A, c, rfl, hc, hm⟩ := ho.form
  clear hr bg1 hgr
  go_wp2_with fail
  obtain ⟨w3, hw1⟩ : ∃ w3, w3 = w2.alloc (.cells #[.int .i64 W, .int .i64 L, .slice A ds.length c] 30) := ⟨_, rfl⟩
  have x0 : w3.cell? ⟨w2.heap.size, 0, none⟩ = some (.int .i64 W) := by rw [hw1]; go_simp
  have x1 : w3.cell? ⟨w2.heap.size, 1, none⟩ = some (.int .i64 L) := by rw [hw1]; go_simp
  have x2 : w3.cell? ⟨w2.heap.size, 2, none⟩ = some (.slice A ds.length c) := by rw [hw1]; go_simp
  have bx : Below w2.heap.size w2 w3 := by rw [hw1]; exact (Below.refl _ _).alloc (Nat.le_refl _) _
  have zx : w2.heap.size < w3.heap.size := by rw [hw1]; simp
  have HZx := Lib.hid (show w3.heap.size = w2.heap.size + 1 by rw [hw1]; simp)
  have fx0 : w3.frozen? ⟨w2.heap.size, 0, none⟩ = false := by rw [hw1]; go_simp
  have fx1 : w3.frozen? ⟨w2.heap.size, 1, none⟩ = false := by rw [hw1]; go_simp
  have fx2 : w3.frozen? ⟨w2.heap.size, 2, none⟩ = false := by rw [hw1]; go_simp
  have Hx := Lib.hid (show w3.heap[w2.heap.size]? = some (.cells #[.int .i64 W, .int .i64 L, .slice A ds.length c] 30) by rw [hw1]; exact heap_alloc_new w2 _)
  rw [← hw1]
  clear hw1
  replace c00 := keepB bx c00; replace c01 := keepB bx c01; replace c02 := keepB bx c02
  replace f00 := keepF bx (by first | (simp; done) | (simp; omega)) f00; replace f01 := keepF bx (by first | (simp; done) | (simp; omega)) f01; replace f02 := keepF bx (by first | (simp; done) | (simp; omega)) f02
  have ho3 := ho.kept (.of_below bx (Nat.le_refl _))
  have hlo := ho.lt
  have hr3 := hr2.below bx
  have hgr3 := grown_trans hgr2 (grown_below bx (some g))
  clear bx hr2 hgr2 ho
  refine (pick_any B k1 g v 20 w3 hr3 (by omega) (by omega)).mono ?_
  rintro e w4 ⟨y, rfl, hy, hr4, bo1⟩
  replace c00 := keepO bo1 (by first | (simp; done) | (simp; omega)) c00; replace c01 := keepO bo1 (by first | (simp; done) | (simp; omega)) c01; replace c02 := keepO bo1 (by first | (simp; done) | (simp; omega)) c02; replace x0 := keepO bo1 (by first | (simp; done) | (simp; omega)) x0; replace x1 := keepO bo1 (by first | (simp; done) | (simp; omega)) x1; replace x2 := keepO bo1 (by first | (simp; done) | (simp; omega)) x2
  replace f00 := keepOF bo1 (by first | (simp; done) | (simp; omega)) f00; replace f01 := keepOF bo1 (by first | (simp; done) | (simp; omega)) f01; replace f02 := keepOF bo1 (by first | (simp; done) | (simp; omega)) f02; replace fx0 := keepOF bo1 (by first | (simp; done) | (simp; omega)) fx0; replace fx1 := keepOF bo1 (by first | (simp; done) | (simp; omega)) fx1; replace fx2 := keepOF bo1 (by first | (simp; done) | (simp; omega)) fx2
  have ho4 := ho3.kept (bo1.kept (.inr (by omega)))
  have hgr4 := grown_trans hgr3 (grown_only bo1)
  have hz4 : w2.heap.size < w4.heap.size := by have := bo1.size; omega
  have hne : ¬ w2.heap.size = w.heap.size := by omega
  have HX4 := Lib.hid ((bo1.block w2.heap.size (by omega)).trans Hx.out)
  clear hr3 ho3 hgr3 bo1 zx HZx hy
  obtain ⟨e0, he0⟩ : ∃ e, (y == 0) = e := ⟨_, rfl⟩
  obtain ⟨e1, he1⟩ : ∃ e, (y == 1) = e := ⟨_, rfl⟩
  obtain ⟨e2, he2⟩ : ∃ e, (y == 2) = e := ⟨_, rfl⟩
  obtain ⟨e3, he3⟩ : ∃ e, (y == 3) = e := ⟨_, rfl⟩
  have HO := Lib.hid ho4
  cases e0
  rotate_left
  · go_wp2_with fail
    refine (one_lit B (k1 + 1) g v [0, 61] w4 _ _ _ hr4 (by omega) rfl rfl rfl (by simp) (by simp) (by unfold I64; simp)).mono ?_
    rintro e w5 ⟨q, rfl, hq, hr5, bg1⟩
    have hq1 : 0 ≤ q ∧ q ≤ 61 := by simp only [List.mem_cons, List.not_mem_nil, or_false] at hq; omega
    replace c00 := keepW bg1 (by first | (simp; done) | (simp; omega)) c00; replace c01 := keepW bg1 (by first | (simp; done) | (simp; omega)) c01; replace c02 := keepW bg1 (by first | (simp; done) | (simp; omega)) c02; replace x0 := keepW bg1 (by first | (simp; done) | (simp; omega)) x0; replace x1 := keepW bg1 (by first | (simp; done) | (simp; omega)) x1; replace x2 := keepW bg1 (by first | (simp; done) | (simp; omega)) x2
    replace f00 := keepWF bg1 (by first | (simp; done) | (simp; omega)) f00; replace f01 := keepWF bg1 (by first | (simp; done) | (simp; omega)) f01; replace f02 := keepWF bg1 (by first | (simp; done) | (simp; omega)) f02; replace fx0 := keepWF bg1 (by first | (simp; done) | (simp; omega)) fx0; replace fx1 := keepWF bg1 (by first | (simp; done) | (simp; omega)) fx1; replace fx2 := keepWF bg1 (by first | (simp; done) | (simp; omega)) fx2
    have ho5 := ho4.grown bg1 (by omega)
    have hgr5 := grown_trans hgr4 bg1
    have Ho := Lib.hid ho5
    clear ho4 ho5 bg1 hq hr4 hgr4
    go_wp2
    refine bodyPost_ret (v := .agg #[.int .i64 q, .int .i64 L, .slice A ds.length c]) (by simp [results, Try.results91, go_sem, *]) rfl ⟨q, L, _, ds, k1 + 1 + 1, rfl, by omega, ?_, by omega, ?_, by omega, ?_⟩
    · exact (((Ho.out.setT (fun g hg => by have := (hlo g hg).2; show ¬ w2.heap.size = g; omega) _).setT (fun g hg => by have := (hlo g hg).1; show ¬ w.heap.size = g; omega) _).setT (fun g hg => by have := (hlo g hg).1; show ¬ w.heap.size = g; omega) _).setT (fun g hg => by have := (hlo g hg).1; show ¬ w.heap.size = g; omega) _ |>.base (by omega)
    · exact (((hr5.set ⟨by show B ≤ w2.heap.size; omega, by show ¬ w2.heap.size = g; omega⟩ _).set ⟨by show B ≤ w.heap.size; omega, by show ¬ w.heap.size = g; omega⟩ _).set ⟨by show B ≤ w.heap.size; omega, by show ¬ w.heap.size = g; omega⟩ _).set ⟨by show B ≤ w.heap.size; omega, by show ¬ w.heap.size = g; omega⟩ _
    · exact grown_setCell (grown_setCell (grown_setCell (grown_setCell hgr5 (by show w.heap.size ≤ w2.heap.size; omega) _) (Nat.le_refl _) _) (Nat.le_refl _) _) (Nat.le_refl _) _
  cases e1
  rotate_left
  · go_wp2_with fail
    refine (one_lit B (k1 + 1) g v [0, 401] w4 _ _ _ hr4 (by omega) rfl rfl rfl (by simp) (by simp) (by unfold I64; simp)).mono ?_
    rintro e w5 ⟨q, rfl, hq, hr5, bg1⟩
    have hq1 : 0 ≤ q ∧ q ≤ 401 := by simp only [List.mem_cons, List.not_mem_nil, or_false] at hq; omega
    replace c00 := keepW bg1 (by first | (simp; done) | (simp; omega)) c00; replace c01 := keepW bg1 (by first | (simp; done) | (simp; omega)) c01; replace c02 := keepW bg1 (by first | (simp; done) | (simp; omega)) c02; replace x0 := keepW bg1 (by first | (simp; done) | (simp; omega)) x0; replace x1 := keepW bg1 (by first | (simp; done) | (simp; omega)) x1; replace x2 := keepW bg1 (by first | (simp; done) | (simp; omega)) x2
    replace f00 := keepWF bg1 (by first | (simp; done) | (simp; omega)) f00; replace f01 := keepWF bg1 (by first | (simp; done) | (simp; omega)) f01; replace f02 := keepWF bg1 (by first | (simp; done) | (simp; omega)) f02; replace fx0 := keepWF bg1 (by first | (simp; done) | (simp; omega)) fx0; replace fx1 := keepWF bg1 (by first | (simp; done) | (simp; omega)) fx1; replace fx2 := keepWF bg1 (by first | (simp; done) | (simp; omega)) fx2
    have ho5 := ho4.grown bg1 (by omega)
    have hgr5 := grown_trans hgr4 bg1
    have Ho := Lib.hid ho5
    clear ho4 ho5 bg1 hq hr4 hgr4
    go_wp2
    refine bodyPost_ret (v := .agg #[.int .i64 W, .int .i64 q, .slice A ds.length c]) (by simp [results, Try.results91, go_sem, *]) rfl ⟨W, q, _, ds, k1 + 1 + 1, rfl, by omega, ?_, by omega, ?_, by omega, ?_⟩
    · exact (((Ho.out.setT (fun g hg => by have := (hlo g hg).2; show ¬ w2.heap.size = g; omega) _).setT (fun g hg => by have := (hlo g hg).1; show ¬ w.heap.size = g; omega) _).setT (fun g hg => by have := (hlo g hg).1; show ¬ w.heap.size = g; omega) _).setT (fun g hg => by have := (hlo g hg).1; show ¬ w.heap.size = g; omega) _ |>.base (by omega)
    · exact (((hr5.set ⟨by show B ≤ w2.heap.size; omega, by show ¬ w2.heap.size = g; omega⟩ _).set ⟨by show B ≤ w.heap.size; omega, by show ¬ w.heap.size = g; omega⟩ _).set ⟨by show B ≤ w.heap.size; omega, by show ¬ w.heap.size = g; omega⟩ _).set ⟨by show B ≤ w.heap.size; omega, by show ¬ w.heap.size = g; omega⟩ _
    · exact grown_setCell (grown_setCell (grown_setCell (grown_setCell hgr5 (by show w.heap.size ≤ w2.heap.size; omega) _) (Nat.le_refl _) _) (Nat.le_refl _) _) (Nat.le_refl _) _
  cases e2
  rotate_left
  · clear ho4
    go_wp2_with (at_builtin; refine wpList_appendT SlDefect _ rfl (.tmp 23) (.tmp 28) rfl [0, 1, 0, L + 1, 1] _ rfl w1.heap.size _ _ rfl rfl HO.out ⟨rfl, i64_5 ⟨by omega, by omega⟩ ⟨by omega, by omega⟩ ⟨by omega, by omega⟩ ⟨by omega, by omega⟩ ⟨by omega, by omega⟩⟩ (by omega) (by omega) (by omega) ?_; intro v' w5 ho5 hg5; have Ho := Lib.hid ho5; have hap := own_apartT ho5 (p := w2.heap.size) ((hg5.other _ (by omega) (fun e => by have := (hlo _ e.symm).2; omega)).trans HX4.out) (by decide); have hl9 := ho5.lt; obtain ⟨A9, c9, rfl, hc9, hm9⟩ := ho5.form; have bA := hg5.below; replace c00 := keepC bA (by first | (simp; done) | (simp; omega)) c00; replace c01 := keepC bA (by first | (simp; done) | (simp; omega)) c01; replace c02 := keepC bA (by first | (simp; done) | (simp; omega)) c02; replace f00 := keepF bA (by first | (simp; done) | (simp; omega)) f00; replace f01 := keepF bA (by first | (simp; done) | (simp; omega)) f01; replace f02 := keepF bA (by first | (simp; done) | (simp; omega)) f02; have x0 := keepA hg5 (a := ⟨w2.heap.size, 0, none⟩) hz4 (fun e => by have := (hlo _ e).2; simp at this) x0; have x1 := keepA hg5 (a := ⟨w2.heap.size, 1, none⟩) hz4 (fun e => by have := (hlo _ e).2; simp at this) x1; have x2 := keepA hg5 (a := ⟨w2.heap.size, 2, none⟩) hz4 (fun e => by have := (hlo _ e).2; simp at this) x2; have fx2 := (World.frozen?_of_block (hg5.other w2.heap.size hz4 (fun e => by have := (hlo _ e.symm).2; omega))).trans fx2)
    have hgr5 := grown_then hgr4 hg5.below (by omega)
    have hr5 := hr4.grew hg5 (by omega)
    refine bodyPost_ret (v := .agg #[.int .i64 W, .int .i64 L, .slice A9 (ds ++ [[0, 1, 0, L + 1, 1]]).length c9]) (by simp [results, Try.results91, go_sem, *]) rfl ⟨W, L, _, ds ++ [[0, 1, 0, L + 1, 1]], k1 + 1, rfl, by omega, ?_, by rw [List.length_append]; simp; omega, ?_, by omega, ?_⟩
    · exact (((Ho.out.setT (fun g hg => hap g hg) _).setT (fun g hg => by have := (hl9 g hg).1; show ¬ w.heap.size = g; omega) _).setT (fun g hg => by have := (hl9 g hg).1; show ¬ w.heap.size = g; omega) _).setT (fun g hg => by have := (hl9 g hg).1; show ¬ w.heap.size = g; omega) _ |>.base (by omega)
    · exact (((hr5.set ⟨by show B ≤ w2.heap.size; omega, by show ¬ w2.heap.size = g; omega⟩ _).set ⟨by show B ≤ w.heap.size; omega, by show ¬ w.heap.size = g; omega⟩ _).set ⟨by show B ≤ w.heap.size; omega, by show ¬ w.heap.size = g; omega⟩ _).set ⟨by show B ≤ w.heap.size; omega, by show ¬ w.heap.size = g; omega⟩ _
    · exact grown_setCell (grown_setCell (grown_setCell (grown_setCell hgr5 (by show w.heap.size ≤ w2.heap.size; omega) _) (Nat.le_refl _) _) (Nat.le_refl _) _) (Nat.le_refl _) _
  cases e3
  rotate_left
  · clear ho4
    go_wp2_with (at_builtin; refine wpList_appendT SlDefect _ rfl (.tmp 34) (.tmp 36) rfl [0, 1, 0, 1, 0] _ rfl w1.heap.size _ _ rfl rfl HO.out ⟨rfl, i64_5 ⟨by omega, by omega⟩ ⟨by omega, by omega⟩ ⟨by omega, by omega⟩ ⟨by omega, by omega⟩ ⟨by omega, by omega⟩⟩ (by omega) (by omega) (by omega) ?_; intro v' w5 ho5 hg5; have Ho := Lib.hid ho5; have hap := own_apartT ho5 (p := w2.heap.size) ((hg5.other _ (by omega) (fun e => by have := (hlo _ e.symm).2; omega)).trans HX4.out) (by decide); have hl9 := ho5.lt; obtain ⟨A9, c9, rfl, hc9, hm9⟩ := ho5.form; have bA := hg5.below; replace c00 := keepC bA (by first | (simp; done) | (simp; omega)) c00; replace c01 := keepC bA (by first | (simp; done) | (simp; omega)) c01; replace c02 := keepC bA (by first | (simp; done) | (simp; omega)) c02; replace f00 := keepF bA (by first | (simp; done) | (simp; omega)) f00; replace f01 := keepF bA (by first | (simp; done) | (simp; omega)) f01; replace f02 := keepF bA (by first | (simp; done) | (simp; omega)) f02; have x0 := keepA hg5 (a := ⟨w2.heap.size, 0, none⟩) hz4 (fun e => by have := (hlo _ e).2; simp at this) x0; have x1 := keepA hg5 (a := ⟨w2.heap.size, 1, none⟩) hz4 (fun e => by have := (hlo _ e).2; simp at this) x1; have x2 := keepA hg5 (a := ⟨w2.heap.size, 2, none⟩) hz4 (fun e => by have := (hlo _ e).2; simp at this) x2; have fx2 := (World.frozen?_of_block (hg5.other w2.heap.size hz4 (fun e => by have := (hlo _ e.symm).2; omega))).trans fx2)
    have hgr5 := grown_then hgr4 hg5.below (by omega)
    have hr5 := hr4.grew hg5 (by omega)
    refine bodyPost_ret (v := .agg #[.int .i64 W, .int .i64 L, .slice A9 (ds ++ [[0, 1, 0, 1, 0]]).length c9]) (by simp [results, Try.results91, go_sem, *]) rfl ⟨W, L, _, ds ++ [[0, 1, 0, 1, 0]], k1 + 1, rfl, by omega, ?_, by rw [List.length_append]; simp; omega, ?_, by omega, ?_⟩
    · exact (((Ho.out.setT (fun g hg => hap g hg) _).setT (fun g hg => by have := (hl9 g hg).1; show ¬ w.heap.size = g; omega) _).setT (fun g hg => by have := (hl9 g hg).1; show ¬ w.heap.size = g; omega) _).setT (fun g hg => by have := (hl9 g hg).1; show ¬ w.heap.size = g; omega) _ |>.base (by omega)
    · exact (((hr5.set ⟨by show B ≤ w2.heap.size; omega, by show ¬ w2.heap.size = g; omega⟩ _).set ⟨by show B ≤ w.heap.size; omega, by show ¬ w.heap.size = g; omega⟩ _).set ⟨by show B ≤ w.heap.size; omega, by show ¬ w.heap.size = g; omega⟩ _).set ⟨by show B ≤ w.heap.size; omega, by show ¬ w.heap.size = g; omega⟩ _
    · exact grown_setCell (grown_setCell (grown_setCell (grown_setCell hgr5 (by show w.heap.size ≤ w2.heap.size; omega) _) (Nat.le_refl _) _) (Nat.le_refl _) _) (Nat.le_refl _) _
  · go_wp2
    refine bodyPost_ret (v := .agg #[.int .i64 W, .int .i64 L, .slice A ds.length c]) (by simp [results, Try.results91, go_sem, *]) rfl ⟨W, L, _, ds, k1 + 1, rfl, by omega, ?_, by omega, ?_, by omega, ?_⟩
    · exact ((HO.out.setT (fun g hg => by have := (hlo g hg).1; show ¬ w.heap.size = g; omega) _).setT (fun g hg => by have := (hlo g hg).1; show ¬ w.heap.size = g; omega) _).setT (fun g hg => by have := (hlo g hg).1; show ¬ w.heap.size = g; omega) _ |>.base (by omega)
    · exact ((hr4.set ⟨by show B ≤ w.heap.size; omega, by show ¬ w.heap.size = g; omega⟩ _).set ⟨by show B ≤ w.heap.size; omega, by show ¬ w.heap.size = g; omega⟩ _).set ⟨by show B ≤ w.heap.size; omega, by show ¬ w.heap.size = g; omega⟩ _
    · exact grown_setCell (grown_setCell (grown_setCell hgr4 (Nat.le_refl _) _) (Nat.le_refl _) _) (Nat.le_refl _) _
end Go.Proofs.Ytodbgkflakfjpaa
