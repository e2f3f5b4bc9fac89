/-
  Lemmas and contracts of single functions of this program, used by the proofs of its laws: what each call returns and what becomes of memory. Conditions: the hypotheses of each theorem.
-/
import Derived.Test.YtkgepklapglmdaaGreatDoorMnQ
import Derived.Test.YtkgepklapglmdaaGreatDoorMillS
namespace Go.Proofs.YtkgepklapglmdaaGreatDoor
open Go.RowKit
attribute [local go_sem ↓] Go.wp_at_zero Go.wp_at_succ

/-- a mill that lies in a block of its own -/
def MB (w : World) (B : Nat) (v : Value) (a b z : Int) : Prop := w.heap[B]? = some (.cells #[v, .int .i64 a, .int .i64 b, .int .i64 z] 25 (0, 0))
theorem MB.lt {w : World} {B : Nat} {v : Value} {a b z : Int} (h : MB w B v a b z) : B < w.heap.size := (Array.getElem?_eq_some_iff.1 h).1
theorem MB.cells {w : World} {B : Nat} {v : Value} {a b z : Int} (h : MB w B v a b z) :
    (w.cell? ⟨B, 0, none⟩ = some v ∧ w.cell? ⟨B, 1, none⟩ = some (.int .i64 a) ∧ w.cell? ⟨B, 2, none⟩ = some (.int .i64 b) ∧ w.cell? ⟨B, 3, none⟩ = some (.int .i64 z)) ∧
    (w.frozen? ⟨B, 0, none⟩ = false ∧ w.frozen? ⟨B, 1, none⟩ = false ∧ w.frozen? ⟨B, 2, none⟩ = false ∧ w.frozen? ⟨B, 3, none⟩ = false) := by
  unfold MB at h
  refine ⟨⟨?_, ?_, ?_, ?_⟩, ?_, ?_, ?_, ?_⟩ <;> simp [World.cell?, World.frozen?, h]
theorem MB.kept {w w' : World} {B : Nat} {v : Value} {a b z : Int} (h : MB w B v a b z) (e : w'.heap[B]? = w.heap[B]?) : MB w' B v a b z := e.trans h
theorem MB.below {w w' : World} {B k : Nat} {v : Value} {a b z : Int} (h : MB w B v a b z) (hb : Below k w w') (hk : B < k) : MB w' B v a b z := h.kept (hb.block B hk)
theorem MB.set0 {w : World} {B : Nat} {v : Value} {a b z : Int} (h : MB w B v a b z) (u : Value) : MB (w.setCell ⟨B, 0, none⟩ u) B u a b z := by
  unfold MB at h ⊢; simp only [World.setCell, Array.getElem?_modify, if_true, h, Option.map_some]; rfl
theorem MB.set1 {w : World} {B : Nat} {v : Value} {a b z : Int} (h : MB w B v a b z) (u : Int) : MB (w.setCell ⟨B, 1, none⟩ (.int .i64 u)) B v u b z := by
  unfold MB at h ⊢; simp only [World.setCell, Array.getElem?_modify, if_true, h, Option.map_some]; rfl
theorem MB.set2 {w : World} {B : Nat} {v : Value} {a b z : Int} (h : MB w B v a b z) (u : Int) : MB (w.setCell ⟨B, 2, none⟩ (.int .i64 u)) B v a u z := by
  unfold MB at h ⊢; simp only [World.setCell, Array.getElem?_modify, if_true, h, Option.map_some]; rfl
theorem MB.set3 {w : World} {B : Nat} {v : Value} {a b z : Int} (h : MB w B v a b z) (u : Int) : MB (w.setCell ⟨B, 3, none⟩ (.int .i64 u)) B v a b u := by
  unfold MB at h ⊢; simp only [World.setCell, Array.getElem?_modify, if_true, h, Option.map_some]; rfl
theorem InsertO_lit (base s i n c : Nat) (A : Option Addr) (es : List Ent) (f : Ent) (w : World) (h : OwnE w base s 58 92 38 (.slice A n c) es) (hi : i ≤ es.length) (hl : es.length ≤ 1000) (hf : E64 f) (hfd : f.ds = []) (hfp : f.ps = []) (hs : s ≤ w.heap.size) (hb : base ≤ s) :
    Calls Tryz.prog 85 #[.slice A n c, .int .i64 i, .slice (some ⟨w.heap.size, 0, none⟩) 1 1] (w.alloc (.cells #[.int .i64 f.lb, .int .i64 f.W, .int .i64 f.L, .slice none 0 0, .slice none 0 0] 58)) fun e w' => ∃ v', e = .returned v' ∧ OwnE w' base w'.heap.size 58 92 38 v' (es.take i ++ f :: es.drop i) ∧ Below base w w' ∧ (∀ k, k < w.heap.size → some k ≠ (Value.slice A n c).ownBlock → w'.heap[k]? = w.heap[k]?) := by
  have b1 : Below w.heap.size w (w.alloc (.cells #[.int .i64 f.lb, .int .i64 f.W, .int .i64 f.L, .slice none 0 0, .slice none 0 0] 58)) := (Below.refl _ _).alloc (Nat.le_refl _) _
  refine (InsertO_any base s i w.heap.size n c A es f _ (h.below b1 hs) hi hl hf hfd hfp hs hb (heap_alloc_new w _)).mono ?_
  rintro e w' ⟨v', rfl, ho, hg⟩
  exact ⟨v', rfl, ho, (b1.mono (by omega)).trans hg.below, fun k hk hne => (hg.other k (by simp; omega) hne).trans (b1.block k hk)⟩
set_option maxRecDepth 100000 in
set_option maxHeartbeats 4000000 in
theorem iAddReel_any (base s B : Nat) (v : Value) (es : List Ent) (a b z lb W L : Int) (w : World) (ho : OwnE w base s 58 92 38 v es) (hm : MB w B v a b z) (hbs : base ≤ s) (hsB : s ≤ B) (hl : es.length ≤ 12) (ha : 0 ≤ a ∧ a ≤ 900000) (hlb : I64 lb) :
    Calls Tryz.prog 46 #[.pointer (some ⟨B, 0, none⟩), .int .i64 lb, .int .i64 W, .int .i64 L] w fun e w' => Below base w w' ∧
      (((((1 ≤ W ∧ W ≤ 60) ∧ (1 ≤ L ∧ L ≤ 400)) ∧ entI es lb < 0) ∧ e = .returned (.bool true) ∧ ∃ v', OwnE w' base w'.heap.size 58 92 38 v' (insI ⟨lb, W, L, [], []⟩ es) ∧ MB w' B v' (a + W * L) b z) ∨
       (¬ (((1 ≤ W ∧ W ≤ 60) ∧ (1 ≤ L ∧ L ≤ 400)) ∧ entI es lb < 0) ∧ e = .returned (.bool false))) := by
  obtain ⟨A, c, rfl, hc, hmx⟩ := ho.form
  have hBw := hm.lt
  obtain ⟨⟨m0, m1, m2, m3⟩, ⟨f0, f1, f2, f3⟩⟩ := hm.cells
  have Hm := Lib.hid hm
  have Ho := Lib.hid ho
  clear hm ho
  go_enter Tryz.func46, Tryz.ntmps46
  go_wp2_with fail
  obtain ⟨w1, hw1⟩ : ∃ w1, w1 = w.alloc (.cells #[.int .i64 W, .int .i64 L, .slice none 0 0] 55) := ⟨_, rfl⟩
  have x0 : w1.cell? ⟨w.heap.size, 0, none⟩ = some (.int .i64 W) := by rw [hw1]; go_simp
  have x1 : w1.cell? ⟨w.heap.size, 1, none⟩ = some (.int .i64 L) := by rw [hw1]; go_simp
  have x2 : w1.cell? ⟨w.heap.size, 2, none⟩ = some (.slice none 0 0) := by rw [hw1]; go_simp
  have bx : Below w.heap.size w w1 := by rw [hw1]; exact (Below.refl _ _).alloc (Nat.le_refl _) _
  have zx : w.heap.size < w1.heap.size := by rw [hw1]; simp
  have HZx := Lib.hid (show w1.heap.size = w.heap.size + 1 by rw [hw1]; simp)
  have fx0 : w1.frozen? ⟨w.heap.size, 0, none⟩ = false := by rw [hw1]; go_simp
  have fx1 : w1.frozen? ⟨w.heap.size, 1, none⟩ = false := by rw [hw1]; go_simp
  have fx2 : w1.frozen? ⟨w.heap.size, 2, none⟩ = false := by rw [hw1]; go_simp
  have Hx := Lib.hid (show w1.heap[w.heap.size]? = some (.cells #[.int .i64 W, .int .i64 L, .slice none 0 0] 55) by rw [hw1]; exact heap_alloc_new w _)
  rw [← hw1]
  clear hw1
  have Ho1 := Lib.hid (Ho.out.below bx (by omega))
  have Hm1 := Lib.hid (Hm.out.below bx hBw)
  have Hb1 := Lib.hid (bx.mono (show base ≤ w.heap.size by omega))
  replace m0 := keepB bx m0; replace m1 := keepB bx m1; replace m2 := keepB bx m2; replace m3 := keepB bx m3
  replace f0 := keepF bx (by first | (simp; done) | (simp; omega)) f0; replace f1 := keepF bx (by first | (simp; done) | (simp; omega)) f1; replace f2 := keepF bx (by first | (simp; done) | (simp; omega)) f2; replace f3 := keepF bx (by first | (simp; done) | (simp; omega)) f3
  clear bx Ho Hm Hx HZx fx0 fx1 fx2
  refine (ValidReel_any 0 0 W L _ [] w1 (TS.nil _ _ _ _) (Nat.zero_le _)).mono ?_
  rintro e w2 ⟨rfl, b2⟩
  have hz2 := b2.size
  replace m0 := keepB b2 m0; replace m1 := keepB b2 m1; replace m2 := keepB b2 m2; replace m3 := keepB b2 m3; replace x0 := keepB b2 x0; replace x1 := keepB b2 x1; replace x2 := keepB b2 x2
  replace f0 := keepF b2 (by first | (simp; done) | (simp; omega)) f0; replace f1 := keepF b2 (by first | (simp; done) | (simp; omega)) f1; replace f2 := keepF b2 (by first | (simp; done) | (simp; omega)) f2; replace f3 := keepF b2 (by first | (simp; done) | (simp; omega)) f3
  have Ho2 := Lib.hid (Ho1.out.below b2 (by omega))
  have Hm2 := Lib.hid (Hm1.out.below b2 (by omega))
  have Hb2 := Lib.hid (Hb1.out.trans (b2.mono (by omega)))
  clear b2 Ho1 Hm1 Hb1
  by_cases hr : (1 ≤ W ∧ W ≤ 60) ∧ (1 ≤ L ∧ L ≤ 400)
  rotate_left
  · have hv : vReel W L [] = false := by
      cases h9 : vReel W L []
      · rfl
      · have h8 := vReel_iff.1 h9
        exact absurd ⟨⟨h8.1, h8.2.1⟩, h8.2.2.1, h8.2.2.2.1⟩ hr
    rw [hv]
    have Hr := Lib.hid hr
    clear hr hv
    go_wp2
    go_ret
    exact ⟨Hb2.out, .inr ⟨fun h => Hr.out h.1, rfl⟩⟩
  have hv : vReel W L [] = true := vReel_iff.2 ⟨hr.1.1, hr.1.2, hr.2.1, hr.2.2, by simp, by simp⟩
  rw [hv]
  have Hr := Lib.hid hr
  have hWL0 : 0 ≤ W * L := Int.mul_nonneg (by omega) (by omega)
  have hWL1 : W * L ≤ 60 * 400 := Int.mul_le_mul (by omega) (by omega) (by omega) (by omega)
  clear hv
  go_wp2_with fail
  refine (iEntryOf_any base s _ es a b z lb w2 Ho2.out.es (by omega)).mono ?_
  rintro e w3 ⟨rfl, b3⟩
  have hz3 := b3.size
  replace m0 := keepB b3 m0; replace m1 := keepB b3 m1; replace m2 := keepB b3 m2; replace m3 := keepB b3 m3; replace x0 := keepB b3 x0; replace x1 := keepB b3 x1; replace x2 := keepB b3 x2
  replace f0 := keepF b3 (by first | (simp; done) | (simp; omega)) f0; replace f1 := keepF b3 (by first | (simp; done) | (simp; omega)) f1; replace f2 := keepF b3 (by first | (simp; done) | (simp; omega)) f2; replace f3 := keepF b3 (by first | (simp; done) | (simp; omega)) f3
  have Ho3 := Lib.hid (Ho2.out.below b3 (by omega))
  have Hm3 := Lib.hid (Hm2.out.below b3 (by omega))
  have Hb3 := Lib.hid (Hb2.out.trans (b3.mono (by omega)))
  clear b3 Ho2 Hm2 Hb2
  obtain ⟨at9, hat⟩ : ∃ x, x = entI es lb := ⟨_, rfl⟩
  have Hat := Lib.hid hat
  rw [← hat]
  clear hat
  by_cases hn : at9 < 0
  rotate_left
  · have hn2 : at9 ≥ 0 := by omega
    have hn3 : 0 ≤ at9 := by omega
    have Hn0 := Lib.hid hn
    clear hn
    go_wp2
    go_ret
    exact ⟨Hb3.out, .inr ⟨fun h => by have h2 := h.2; rw [← Hat.out] at h2; have := Hn0.out; omega, rfl⟩⟩
  have hn2 : ¬ at9 ≥ 0 := by omega
  have hn3 : ¬ 0 ≤ at9 := by omega
  have Hn := Lib.hid (show entI es lb < 0 by rw [← Hat.out]; exact hn)
  obtain ⟨WL, hWL⟩ : ∃ x, x = W * L := ⟨_, rfl⟩
  rw [← hWL] at hWL0 hWL1
  have HWL := Lib.hid hWL
  have g1 : wrap64 (W * L) = WL := by rw [← hWL]; exact w64 (by omega)
  have g2 : wrap64 (a + WL) = a + WL := w64 (by omega)
  have g3 : IntKind.i64.wrap (W * L) = WL := by rw [← hWL]; exact IntWalk.i64_in _ (by omega)
  have g4 : IntKind.i64.wrap (a + WL) = a + WL := IntWalk.i64_in _ (by omega)
  clear hWL
  go_wp2
  go_loop [10] (fun i => ∃ k : Nat, k ≤ es.length ∧ i = .int .i64 k ∧ Hid (∀ j, j < k → (ge es j).lb < lb)) (fun i => es.length - (intOf i).toNat)
  case atStart => exact ⟨0, by omega, rfl, fun j hj => by omega⟩
  case round =>
    obtain ⟨k, hk, rfl, hj⟩ := hrel
    by_cases hgo : k < es.length ∧ (ge es k).lb < lb
    · obtain ⟨hlt, hlo⟩ := hgo
      obtain ⟨b9, o, Ad, cd, Ap, cp, rfl, _, _, e0, _⟩ := Ho3.out.es.cell hlt
      have hk0 : (0 : Int) ≤ (k : Int) := by omega
      have hk1 : (k : Int) < (es.length : Int) := by omega
      go_wp2
      go_round
      case rel => exact ⟨k + 1, by omega, by go_num, fun j hj9 => by
        rcases Nat.lt_or_ge j k with h9 | h9
        · exact hj.out j h9
        · rw [show j = k by omega]; exact hlo⟩
      case measure => simp [intOf]; omega
    · have HI := Lib.hid (show es.take k ++ ⟨lb, W, L, [], []⟩ :: es.drop k = insI ⟨lb, W, L, [], []⟩ es from insI_at hk hj.out (by
        rcases Nat.lt_or_ge k es.length with h9 | h9
        · exact .inr fun h8 => hgo ⟨h9, h8⟩
        · exact .inl (by omega)))
      have hcase : ¬ (k : Int) < (es.length : Int) ∨ ∃ b9 o e9, A = some ⟨b9, o, none⟩ ∧ (0 : Int) ≤ (k : Int) ∧ (k : Int) < (es.length : Int) ∧ w3.cell? ⟨b9, o + k * 5, none⟩ = some (.int .i64 e9) ∧ ¬ e9 < lb := by
        rcases Nat.lt_or_ge k es.length with h9 | h9
        · obtain ⟨b9, o, Ad, cd, Ap, cp, hA, _, _, e0, _⟩ := Ho3.out.es.cell h9
          exact .inr ⟨b9, o, _, hA, by omega, by omega, e0, fun h8 => hgo ⟨h9, h8⟩⟩
        · exact .inl (by omega)
      clear hgo hj
      have hB3 : B < w3.heap.size := by omega
      have hap : ∀ k, s ≤ k → some k ≠ (Value.slice A es.length c).ownBlock := fun k hk e => by have := (Ho3.out.lt k e.symm).2.1; omega
      have Hap := Lib.hid hap
      clear hap
      rcases hcase with hnk | ⟨b9, o, e9, hA, hk0, hk1, e0, hnl⟩
      all_goals
        go_wp2
        try clear hA e0 hk0 hk1 hnl
        try clear hnk
        refine wp_region_last (S := fun w' => w'.cell? ⟨B, 0, none⟩ = some (.slice A es.length c) ∧ w'.cell? ⟨w.heap.size, 0, none⟩ = some (.int .i64 W) ∧ w'.cell? ⟨w.heap.size, 1, none⟩ = some (.int .i64 L) ∧ w'.cell? ⟨w.heap.size, 2, none⟩ = some (.slice none 0 0)) 13 (by kernel_rfl) ?_ (fun hHeld => ?_)
        · (first | (try dsimp only); go_keep | (go_split_ands; refine ⟨?_, ?_, ?_, ?_⟩ <;> first | assumption))
        refine AnyL.take (i := 0) (oi := ⟨some 46, _, _, _, _, _⟩) (v := _) rfl (by kernel_rfl) (by kernel_rfl) (by kernel_rfl) (by kernel_rfl) (fun _ _ _ h => h) (Or.inl ⟨by kernel_rfl, by intro w hSw; (try dsimp only at hSw); go_simp; try with_reducible rfl⟩) (by assumption) ?_
        simp only [Act.put, lyA, lyB, lyC]
        refine AnyL.take (i := 1) (oi := ⟨some 47, _, _, _, _, _⟩) (v := _) rfl (by kernel_rfl) (by kernel_rfl) (by kernel_rfl) (by kernel_rfl) (fun _ _ _ h => h) (Or.inl ⟨by kernel_rfl, by intro w hSw; (try dsimp only at hSw); go_simp; try with_reducible rfl⟩) (by assumption) ?_
        simp only [Act.put, lyA, lyB, lyC]
        refine AnyL.take (i := 2) (oi := ⟨some 48, _, _, _, _, _⟩) (v := _) rfl (by kernel_rfl) (by kernel_rfl) (by kernel_rfl) (by kernel_rfl) (fun _ _ _ h => h) (Or.inl ⟨by kernel_rfl, by intro w hSw; (try dsimp only at hSw); go_simp; try with_reducible rfl⟩) (by assumption) ?_
        simp only [Act.put, lyA, lyB, lyC]
        refine AnyL.take (i := 3) (oi := ⟨some 49, _, _, _, _, _⟩) (v := _) rfl (by kernel_rfl) (by kernel_rfl) (by kernel_rfl) (by kernel_rfl) (fun _ _ _ h => h) (Or.inl ⟨by kernel_rfl, by intro w hSw; (try dsimp only at hSw); go_simp; try with_reducible rfl⟩) (by assumption) ?_
        simp only [Act.put, lyA, lyB, lyC]
        refine AnyL.take (i := 4) (oi := ⟨some 50, _, _, _, _, _⟩) (v := _) rfl (by kernel_rfl) (by kernel_rfl) (by kernel_rfl) (by kernel_rfl) (fun _ _ _ h => h) (Or.inl ⟨by kernel_rfl, by intro w hSw; (try dsimp only at hSw); go_simp; try with_reducible rfl⟩) (by assumption) ?_
        simp only [Act.put, lyA, lyB, lyC]
        refine AnyL.take (i := 5) (oi := ⟨some 51, _, _, _, _, _⟩) (v := _) rfl (by kernel_rfl) (by kernel_rfl) (by kernel_rfl) (by kernel_rfl) (fun _ _ _ h => h) (Or.inl ⟨by kernel_rfl, by intro w hSw; (try dsimp only at hSw); go_simp; try with_reducible rfl⟩) (by assumption) ?_
        simp only [Act.put, lyA, lyB, lyC]
        refine AnyL.take (i := 6) (oi := ⟨some 52, _, _, _, _, _⟩) (v := _) rfl (by kernel_rfl) (by kernel_rfl) (by kernel_rfl) (by kernel_rfl) (fun _ _ _ h => h) (Or.inl ⟨by kernel_rfl, by intro w hSw; (try dsimp only at hSw); go_simp; try with_reducible rfl⟩) (by assumption) ?_
        simp only [Act.put, lyA, lyB, lyC]
        refine AnyL.take (i := 7) (oi := ⟨some 53, _, _, _, _, _⟩) (v := _) rfl (by kernel_rfl) (by kernel_rfl) (by kernel_rfl) (by kernel_rfl) (fun _ _ _ h => h) (Or.inl ⟨by kernel_rfl, by intro w hSw; (try dsimp only at hSw); go_simp; try with_reducible rfl⟩) (by assumption) ?_
        simp only [Act.put, lyA, lyB, lyC]
        refine AnyL.take (i := 8) (oi := ⟨some 54, _, _, _, _, _⟩) (v := _) rfl (by kernel_rfl) (by kernel_rfl) (by kernel_rfl) (by kernel_rfl) (fun _ _ _ h => h) (Or.inl ⟨by kernel_rfl, by intro w hSw; (try dsimp only at hSw); go_simp; try with_reducible rfl⟩) (by assumption) ?_
        simp only [Act.put, lyA, lyB, lyC]
        refine AnyL.one (i := 9) (o := ⟨some 55, _, _, _, _, _⟩) (by kernel_rfl) rfl (fun K hK => ?_)
        go_simp
        refine hK.out _ _ ?_ (fun hHeld2 => ?_)
        · (first | (try dsimp only); go_keep | (go_split_ands; refine ⟨?_, ?_, ?_, ?_⟩ <;> first | assumption))
        clear hK K hHeld
        have hHeld := hHeld2
        clear hHeld2
        try simp only [Act.put, lyA, lyB, lyC]
        refine AnyL.one (i := 10) (o := ⟨some 56, _, _, _, _, _⟩) (by kernel_rfl) rfl (fun K hK => ?_)
        go_simp
        go_at_call 85
        refine (InsertO_lit base s k es.length c _ es ⟨lb, W, L, [], []⟩ w3.drew Ho3.out hk (by omega) ⟨hlb, ⟨by show _ ≤ W; omega, by show W ≤ _; omega⟩, ⟨by show _ ≤ L; omega, by show L ≤ _; omega⟩⟩ rfl rfl (by show s ≤ w3.heap.size; omega) hbs).mono ?_
        rintro e w6 ⟨v6, rfl, ho6, b6, hk6⟩
        have eB := hk6 B (by show B < w3.heap.size; omega) (Hap.out B hsB)
        have eX := hk6 w.heap.size (by show w.heap.size < w3.heap.size; omega) (Hap.out _ (by omega))
        replace m0 := cell_same (w := w3) eB m0
        replace m1 := cell_same (w := w3) eB m1
        replace m2 := cell_same (w := w3) eB m2
        replace m3 := cell_same (w := w3) eB m3
        replace f0 := frozen_same (w := w3) eB f0
        replace f1 := frozen_same (w := w3) eB f1
        replace x0 := cell_same (w := w3) eX x0
        replace x1 := cell_same (w := w3) eX x1
        replace x2 := cell_same (w := w3) eX x2
        have Hm6 := Lib.hid (Hm3.out.kept (w' := w6) eB)
        obtain ⟨A6, c6, hv6, _⟩ := ho6.form
        obtain ⟨n6, hn6⟩ : ∃ x, x = (es.take k ++ (⟨lb, W, L, [], []⟩ : Ent) :: es.drop k).length := ⟨_, rfl⟩
        rw [← hn6] at hv6
        subst hv6
        clear hn6
        have Ho6 := Lib.hid ho6
        have Hb6 := Lib.hid (Hb3.out.trans ((show Below base w3 w6 from ⟨b6.os, b6.tape, b6.output, b6.size, b6.block⟩)))
        clear ho6 b6 hk6 eB eX f2 f3
        go_wp2_with fail
        refine hK.out _ _ ?_ (fun hHeld2 => ?_)
        · (first | (try dsimp only); go_keep | (go_split_ands; refine ⟨?_, ?_, ?_, ?_⟩ <;> first | assumption))
        clear hK K hHeld
        have hHeld := hHeld2
        clear hHeld2
        try simp only [Act.put, lyA, lyB, lyC]
        refine AnyL.one (i := 11) (o := ⟨some 57, _, _, _, _, _⟩) (by kernel_rfl) rfl (fun K hK => ?_)
        go_simp
        refine hK.out _ _ ?_ (fun hHeld2 => ?_)
        · (first | (try dsimp only); go_keep | (go_split_ands; refine ⟨?_, ?_, ?_, ?_⟩ <;> first | assumption))
        clear hK K hHeld
        have hHeld := hHeld2
        clear hHeld2
        try simp only [Act.put, lyA, lyB, lyC]
        refine AnyL.one (i := 12) (o := ⟨some 58, _, _, _, _, _⟩) (by kernel_rfl) rfl (fun K hK => ?_)
        go_simp
        refine hK.out _ _ ?_ (fun hHeld2 => ?_)
        · (first | (try dsimp only); go_keep | (go_split_ands; refine ⟨?_, ?_, ?_, ?_⟩ <;> first | assumption))
        clear hK K hHeld
        have hHeld := hHeld2
        clear hHeld2
        try simp only [Act.put, lyA, lyB, lyC]
        refine AnyL.last (o := ⟨none, _, _, _, _, _⟩) (by kernel_rfl) rfl (by kernel_rfl) (fun K hK => ?_)
        go_simp
        refine hK.out _ _ ?_
        clear hK K hHeld
        go_wp2
        go_ret
        refine ⟨(Hb6.out.setCell (p := ⟨B, 0, none⟩) (by show base ≤ B; omega) _).setCell (p := ⟨B, 1, none⟩) (by show base ≤ B; omega) _, .inl ⟨⟨Hr.out, Hn.out⟩, rfl, .slice A6 n6 c6, ?_, ?_⟩⟩
        · rw [← HI.out]
          exact ((Ho6.out.setFar (p := ⟨B, 0, none⟩) Hm6.out (by decide) (by decide) (by decide) _).setFar (p := ⟨B, 1, none⟩) (Hm6.out.set0 _) (by decide) (by decide) (by decide) _).wide (Nat.le_refl _) (by simp [World.setCell])
        · rw [← HWL.out]
          exact (Hm6.out.set0 _).set1 _
set_option maxRecDepth 100000 in
set_option maxHeartbeats 4000000 in
theorem iShipReel_any (base s B : Nat) (v : Value) (es : List Ent) (a b z g : Int) (i : Nat) (w : World) (ho : OwnE w base s 58 92 38 v es) (hm : MB w B v a b z) (hbs : base ≤ s) (hsB : s ≤ B) (hl : es.length ≤ 12) (hi9 : i < es.length) (hve : vEnt (ge es i) = true) (hb9 : 0 ≤ b ∧ b ≤ 900000) (hz9 : 0 ≤ z ∧ z ≤ 900000) :
    Calls Tryz.prog 47 #[.pointer (some ⟨B, 0, none⟩), .int .i64 i, .int .i64 g] w fun e w' => e = .returned (.tuple #[]) ∧ Below base w w' ∧
      ∃ v', OwnE w' base w'.heap.size 58 92 38 v' (es.eraseIdx i) ∧ MB w' B v' a (b + goodA (ge es i) g) (z + ((ge es i).W * (ge es i).L - goodA (ge es i) g)) := by
  obtain ⟨A, c, rfl, hc, hmx⟩ := ho.form
  have hBw := hm.lt
  obtain ⟨⟨m0, m1, m2, m3⟩, ⟨f0, f1, f2, f3⟩⟩ := hm.cells
  have Hm := Lib.hid hm
  have Ho := Lib.hid ho
  have hsw : s ≤ w.heap.size := by omega
  have hap : ∀ k, s ≤ k → some k ≠ (Value.slice A es.length c).ownBlock := fun k hk e => by have := (ho.lt k e.symm).2.1; omega
  have Hap := Lib.hid hap
  obtain ⟨b9, o, Ad, cd, Ap, cp, hA, hl9, hh9, e0, e1, e2, e3, e4, hd, hp, _⟩ := ho.es.cell hi9
  clear hm ho hap
  have hi0 : (0 : Int) ≤ (i : Int) := by omega
  have hi1 : (i : Int) < (es.length : Int) := by omega
  obtain ⟨E, hE⟩ : ∃ E, E = ge es i := ⟨_, rfl⟩
  rw [← hE] at e0 e1 e2 e3 e4 hd hp hve
  have HE := Lib.hid hE
  rw [← hE]
  clear hE
  have hcu := (vEnt_iff.1 hve).2.2
  have hlp : E.ps.length ≤ 60 := (vCuts_iff.1 hcu).2.1
  have har := area_rng hve
  have hgl := good_le hve g
  have HG := Lib.hid (fun k hk => goodK_rng hve g k hk)
  have HVE := Lib.hid hve
  have Hcu := Lib.hid hcu
  have Hvr := Lib.hid (vCuts_iff.1 hcu).1
  have HGA := Lib.hid (goodK_all E g)
  clear hve hcu
  go_enter Tryz.func47, Tryz.ntmps47
  go_wp2
  clear hA
  obtain ⟨w2, hw2⟩ : ∃ w2, w2 = w.alloc (.cells #[.int .i64 E.lb, .int .i64 E.W, .int .i64 E.L, .slice Ad E.ds.length cd, .slice Ap E.ps.length cp] 58) := ⟨_, rfl⟩
  have b2 : Below w.heap.size w w2 := by rw [hw2]; exact (Below.refl _ _).alloc (Nat.le_refl _) _
  have k0 : w2.cell? ⟨w.heap.size, 0, none⟩ = some (.int .i64 E.lb) := by rw [hw2]; go_simp
  have k1 : w2.cell? ⟨w.heap.size, 1, none⟩ = some (.int .i64 E.W) := by rw [hw2]; go_simp
  have k2 : w2.cell? ⟨w.heap.size, 2, none⟩ = some (.int .i64 E.L) := by rw [hw2]; go_simp
  have k3 : w2.cell? ⟨w.heap.size, 3, none⟩ = some (.slice Ad E.ds.length cd) := by rw [hw2]; go_simp
  have k4 : w2.cell? ⟨w.heap.size, 4, none⟩ = some (.slice Ap E.ps.length cp) := by rw [hw2]; go_simp
  have hz2 : w.heap.size < w2.heap.size := by rw [hw2]; simp
  have Ho2 := Lib.hid (Ho.out.below b2 hsw)
  have Hm2 := Lib.hid (Hm.out.below b2 hBw)
  have Hb2 := Lib.hid (b2.mono (show base ≤ w.heap.size by omega))
  have hd2 := hd.below b2 hsw
  have hp2 := hp.below b2 hsw
  replace m0 := keepB b2 m0; replace m1 := keepB b2 m1; replace m2 := keepB b2 m2; replace m3 := keepB b2 m3
  replace f0 := keepF b2 (by first | (simp; done) | (simp; omega)) f0; replace f1 := keepF b2 (by first | (simp; done) | (simp; omega)) f1; replace f2 := keepF b2 (by first | (simp; done) | (simp; omega)) f2; replace f3 := keepF b2 (by first | (simp; done) | (simp; omega)) f3
  rw [← hw2]
  clear hw2 b2 Ho Hm hd hp e0 e1 e2 e3 e4
  go_loopw [7, 20] (fun gd j wr => ∃ k : Nat, k ≤ E.ps.length ∧ j = .int .i64 k ∧ gd = .int .i64 (goodK E g k) ∧ Below w2.heap.size w2 wr) (fun _ j _ => E.ps.length - (intOf j).toNat)
  case atStart => exact ⟨0, by omega, rfl, rfl, Below.refl _ _⟩
  case round =>
    obtain ⟨k, hk, rfl, rfl, bw⟩ := hrel
    have hzr := bw.size
    replace m0 := keepB bw m0; replace m1 := keepB bw m1; replace m2 := keepB bw m2; replace m3 := keepB bw m3; replace k0 := keepB bw k0; replace k1 := keepB bw k1; replace k2 := keepB bw k2; replace k3 := keepB bw k3; replace k4 := keepB bw k4
    replace f0 := keepF bw (by first | (simp; done) | (simp; omega)) f0; replace f1 := keepF bw (by first | (simp; done) | (simp; omega)) f1; replace f2 := keepF bw (by first | (simp; done) | (simp; omega)) f2; replace f3 := keepF bw (by first | (simp; done) | (simp; omega)) f3
    have hgr := HG.out k hk
    by_cases hlt : k < E.ps.length
    · have hpr := hp2.below bw (by omega)
      have hp64 := (hpr.all _ (gr_mem hlt)).1
      obtain ⟨b8, o8, rfl, _, _, p0, p1, p2, p3⟩ := hpr.c4 hlt
      have Hdr := Lib.hid (hd2.below bw (by omega))
      have hpv := insB_true (cut_pvM Hcu.out hlt)
      have hWL := vReel_rng Hvr.out
      have harea := areaP_rng HVE.out hlt
      have HS := Lib.hid (goodK_succ (e := E) (g := g) hlt)
      have HP := Lib.hid (part_of hp64)
      have HIn := Lib.hid (show insB (gi (gr E.ps k) 0) (gi (gr E.ps k) 1) (gi (gr E.ps k) 2) (gi (gr E.ps k) 3) E.W E.L = true from cut_pvM Hcu.out hlt)
      have hk0 : (0 : Int) ≤ (k : Int) := by omega
      have hk1 : (k : Int) < (E.ps.length : Int) := by omega
      obtain ⟨l, hl8⟩ : ∃ l, l = gi (gr E.ps k) 0 := ⟨_, rfl⟩
      obtain ⟨r, hr8⟩ : ∃ l, l = gi (gr E.ps k) 1 := ⟨_, rfl⟩
      obtain ⟨f, hf8⟩ : ∃ l, l = gi (gr E.ps k) 2 := ⟨_, rfl⟩
      obtain ⟨t, ht8⟩ : ∃ l, l = gi (gr E.ps k) 3 := ⟨_, rfl⟩
      rw [← hl8, ← hr8, ← hf8, ← ht8] at HP hpv HIn
      rw [← hl8] at p0
      rw [← hr8] at p1
      rw [← hf8] at p2
      rw [← ht8] at p3
      obtain ⟨q, hq⟩ : ∃ q, q = worstL E.ds [l, r, f, t] := ⟨_, rfl⟩
      have HQ := Lib.hid (show (if (vReel E.W E.L E.ds && insB l r f t E.W E.L) = true then worstL E.ds [l, r, f, t] else -1) = q by rw [Hvr.out, HIn.out, hq]; rfl)
      have HAr := Lib.hid (show areaP (gr E.ps k) = (r - l) * (t - f) by unfold areaP; rw [← hl8, ← hr8, ← hf8, ← ht8])
      rw [HP.out, ← hq] at HS
      rw [← HP.out] at HS
      obtain ⟨m, hm8⟩ : ∃ m, m = goodK E g k := ⟨_, rfl⟩
      rw [← hm8] at HS hgr ⊢
      have Hb := Lib.hid bw
      clear hq hl8 hr8 hf8 ht8 hm8 hpr hp64 bw
      have hbd : Below wr.heap.size wr (wr.alloc (.cells #[.int .i64 l, .int .i64 r, .int .i64 f, .int .i64 t] 38)) := (Below.refl _ _).alloc (Nat.le_refl _) _
      have x_k0 := keepB hbd k0
      have x_k1 := keepB hbd k1
      have x_k2 := keepB hbd k2
      have x_k3 := keepB hbd k3
      have x_k4 := keepB hbd k4
      go_wp2_with fail
      clear hbd x_k0 x_k1 x_k2 x_k3 x_k4
      obtain ⟨wq, hw1⟩ : ∃ wq, wq = wr.alloc (.cells #[.int .i64 l, .int .i64 r, .int .i64 f, .int .i64 t] 38) := ⟨_, rfl⟩
      have y_0 : wq.cell? ⟨wr.heap.size, 0, none⟩ = some (.int .i64 l) := by rw [hw1]; go_simp
      have y_1 : wq.cell? ⟨wr.heap.size, 1, none⟩ = some (.int .i64 r) := by rw [hw1]; go_simp
      have y_2 : wq.cell? ⟨wr.heap.size, 2, none⟩ = some (.int .i64 f) := by rw [hw1]; go_simp
      have y_3 : wq.cell? ⟨wr.heap.size, 3, none⟩ = some (.int .i64 t) := by rw [hw1]; go_simp
      have by_ : Below wr.heap.size wr wq := by rw [hw1]; exact (Below.refl _ _).alloc (Nat.le_refl _) _
      have zy_ : wr.heap.size < wq.heap.size := by rw [hw1]; simp
      have HZy_ := Lib.hid (show wq.heap.size = wr.heap.size + 1 by rw [hw1]; simp)
      have fy_0 : wq.frozen? ⟨wr.heap.size, 0, none⟩ = false := by rw [hw1]; go_simp
      have fy_1 : wq.frozen? ⟨wr.heap.size, 1, none⟩ = false := by rw [hw1]; go_simp
      have fy_2 : wq.frozen? ⟨wr.heap.size, 2, none⟩ = false := by rw [hw1]; go_simp
      have fy_3 : wq.frozen? ⟨wr.heap.size, 3, none⟩ = false := by rw [hw1]; go_simp
      have Hy_ := Lib.hid (show wq.heap[wr.heap.size]? = some (.cells #[.int .i64 l, .int .i64 r, .int .i64 f, .int .i64 t] 38) by rw [hw1]; exact heap_alloc_new wr _)
      rw [← hw1]
      clear hw1
      have Hbp := Lib.hid (Hb.out.trans (by_.mono hzr))
      replace m0 := keepB by_ m0; replace m1 := keepB by_ m1; replace m2 := keepB by_ m2; replace m3 := keepB by_ m3; replace k0 := keepB by_ k0; replace k1 := keepB by_ k1; replace k2 := keepB by_ k2; replace k3 := keepB by_ k3; replace k4 := keepB by_ k4
      replace f0 := keepF by_ (by first | (simp; done) | (simp; omega)) f0; replace f1 := keepF by_ (by first | (simp; done) | (simp; omega)) f1; replace f2 := keepF by_ (by first | (simp; done) | (simp; omega)) f2; replace f3 := keepF by_ (by first | (simp; done) | (simp; omega)) f3
      have Hdp := Lib.hid (Hdr.out.below by_ (by omega))
      have HZq := Lib.hid by_.size
      clear by_ Hb Hdr Hy_ HZy_ fy_0 fy_1 fy_2 fy_3 p0 p1 p2 p3
      refine (WorstOf_any base s E.W E.L _ E.ds l r f t wq Hdp.out (by have := HZq.out; omega)).mono ?_
      rw [HQ.out]
      rintro e x1 ⟨rfl, bx1⟩
      replace m0 := keepB bx1 m0; replace m1 := keepB bx1 m1; replace m2 := keepB bx1 m2; replace m3 := keepB bx1 m3; replace k0 := keepB bx1 k0; replace k1 := keepB bx1 k1; replace k2 := keepB bx1 k2; replace k3 := keepB bx1 k3; replace k4 := keepB bx1 k4; replace y_0 := keepB bx1 y_0; replace y_1 := keepB bx1 y_1; replace y_2 := keepB bx1 y_2; replace y_3 := keepB bx1 y_3
      replace f0 := keepF bx1 (by first | (simp; done) | (simp; omega)) f0; replace f1 := keepF bx1 (by first | (simp; done) | (simp; omega)) f1; replace f2 := keepF bx1 (by first | (simp; done) | (simp; omega)) f2; replace f3 := keepF bx1 (by first | (simp; done) | (simp; omega)) f3
      have Hb1 := Lib.hid (Hbp.out.trans (bx1.mono (by have := HZq.out; omega)))
      have Hz1 := Lib.hid bx1.size
      clear bx1 Hbp Hdp
      by_cases hqg : q ≤ g
      · have HS2 := Lib.hid (HS.out.trans (if_pos hqg))
        obtain ⟨ar, har8⟩ : ∃ x, x = areaP (gr E.ps k) := ⟨_, rfl⟩
        rw [← har8] at HS2 harea HAr
        clear HS har8
        have g9 : wrap64 (m + ar) = m + ar := w64 (by omega)
        have g8 : IntKind.i64.wrap (m + ar) = m + ar := IntWalk.i64_in _ (by omega)
        go_wp2_with fail
        refine (areaOf_any l r f t x1 (by omega) (by omega) (by omega) (by omega) (by omega) (by omega)).mono ?_
        rw [← HAr.out]
        rintro e x2 ⟨rfl, bx⟩
        have Hb3 := Lib.hid (Hb1.out.trans (bx.mono Hb1.out.size))
        clear bx k0 k1 k2 k3 k4 y_0 y_1 y_2 y_3
        go_wp2
        go_roundw
        case rel => exact ⟨k + 1, by omega, by go_num, by rw [HS2.out], Hb3.out⟩
        case measure => simp [intOf]; omega
      · have HS2 := Lib.hid (HS.out.trans (if_neg hqg))
        clear HS
        go_wp2
        go_roundw
        case rel => exact ⟨k + 1, by omega, by go_num, by rw [HS2.out], Hb1.out⟩
        case measure => simp [intOf]; omega
    · have hke : k = E.ps.length := by omega
      subst hke
      have HGK := HGA.out
      rw [HGK]
      obtain ⟨G, hG⟩ : ∃ x, x = goodA E g := ⟨_, rfl⟩
      rw [← hG] at hgl ⊢
      obtain ⟨WL, hWL⟩ : ∃ x, x = E.W * E.L := ⟨_, rfl⟩
      rw [← hWL] at hgl har
      have HG9 := Lib.hid hG
      have HWL := Lib.hid hWL
      have g1 : IntKind.i64.wrap (E.W * E.L) = WL := by rw [← hWL]; exact IntWalk.i64_in _ (by omega)
      have g2 : IntKind.i64.wrap (WL - G) = WL - G := IntWalk.i64_in _ (by omega)
      have g3 : IntKind.i64.wrap (z + (WL - G)) = z + (WL - G) := IntWalk.i64_in _ (by omega)
      have g4 : IntKind.i64.wrap (b + G) = b + G := IntWalk.i64_in _ (by omega)
      have g5 : wrap64 (b + G) = b + G := w64 (by omega)
      have hnk : ¬ (E.ps.length : Int) < (E.ps.length : Int) := by omega
      have Ho3 := Lib.hid (Ho2.out.below bw (by omega))
      have Hm3 := Lib.hid (Hm2.out.below bw (by omega))
      have Hb3 := Lib.hid (Hb2.out.trans (bw.mono (by omega)))
      clear hgr HGK hG hWL bw Ho2 Hm2 Hb2 HG
      go_wp2_with fail
      have hBr : B < wr.heap.size := by omega
      have hne : ¬ B = w.heap.size := by omega
      obtain ⟨wX, hwX⟩ : ∃ x, x = wr.setCell ⟨B, 2, none⟩ (.int .i64 (b + G)) := ⟨_, rfl⟩
      have hzX : wX.heap.size = wr.heap.size := by rw [hwX]; simp [World.setCell]
      have eX : ∀ q, ¬ B = q → wX.heap[q]? = wr.heap[q]? := fun q hq => by rw [hwX]; simp only [World.setCell, Array.getElem?_modify, if_neg hq]
      have HmX := Lib.hid (show MB wX B (.slice A es.length c) a (b + G) z by rw [hwX]; exact Hm3.out.set2 _)
      have HoX := Lib.hid (show OwnE wX base s 58 92 38 (.slice A es.length c) es by rw [hwX]; exact Ho3.out.setFar (p := ⟨B, 2, none⟩) Hm3.out (by decide) (by decide) (by decide) _)
      have HbX := Lib.hid (show Below base w wX by rw [hwX]; exact Hb3.out.setCell (p := ⟨B, 2, none⟩) (by show base ≤ B; omega) _)
      replace k0 := cell_same (eX _ hne) k0
      replace k1 := cell_same (eX _ hne) k1
      replace k2 := cell_same (eX _ hne) k2
      obtain ⟨⟨n0, n1, n2, n3⟩, ⟨fn0, fn1, fn2, fn3⟩⟩ := HmX.out.cells
      have hsX : s ≤ wX.heap.size := by omega
      have hBX : B < wX.heap.size := by omega
      rw [← hwX]
      clear hwX eX hzX m0 m1 m2 m3 f0 f1 f2 f3 k3 k4 Ho3 Hm3 Hb3 hBr
      refine wp_region_last (S := fun w' => w'.cell? ⟨B, 3, none⟩ = some (.int .i64 z) ∧ w'.cell? ⟨w.heap.size, 0, none⟩ = some (.int .i64 (E.lb)) ∧ w'.cell? ⟨w.heap.size, 1, none⟩ = some (.int .i64 (E.W)) ∧ w'.cell? ⟨w.heap.size, 2, none⟩ = some (.int .i64 (E.L))) 16 (by kernel_rfl) ?_ (fun hHeld => ?_)
      · (first | (try dsimp only); go_keep | (go_split_ands; refine ⟨?_, ?_, ?_, ?_⟩ <;> first | exact keepB bx1 (by assumption) | assumption))
      refine AnyL.take (i := 0) (oi := ⟨some 43, _, _, _, _, _⟩) (v := _) rfl (by kernel_rfl) (by kernel_rfl) (by kernel_rfl) (by kernel_rfl) (fun _ _ _ h => h) (Or.inl ⟨by kernel_rfl, by intro w hSw; (try dsimp only at hSw); go_simp; try with_reducible rfl⟩) (by assumption) ?_
      simp only [Act.put, lyA, lyB, lyC]
      refine AnyL.take (i := 1) (oi := ⟨some 44, _, _, _, _, _⟩) (v := _) rfl (by kernel_rfl) (by kernel_rfl) (by kernel_rfl) (by kernel_rfl) (fun _ _ _ h => h) (Or.inl ⟨by kernel_rfl, by intro w hSw; (try dsimp only at hSw); go_simp; try with_reducible rfl⟩) (by assumption) ?_
      simp only [Act.put, lyA, lyB, lyC]
      refine AnyL.take (i := 2) (oi := ⟨some 45, _, _, _, _, _⟩) (v := _) rfl (by kernel_rfl) (by kernel_rfl) (by kernel_rfl) (by kernel_rfl) (fun _ _ _ h => h) (Or.inl ⟨by kernel_rfl, by intro w hSw; (try dsimp only at hSw); go_simp; try with_reducible rfl⟩) (by assumption) ?_
      simp only [Act.put, lyA, lyB, lyC]
      refine AnyL.take (i := 3) (oi := ⟨some 46, _, _, _, _, _⟩) (v := _) rfl (by kernel_rfl) (by kernel_rfl) (by kernel_rfl) (by kernel_rfl) (fun _ _ _ h => h) (Or.inl ⟨by kernel_rfl, by intro w hSw; (try dsimp only at hSw); go_simp; try with_reducible rfl⟩) (by assumption) ?_
      simp only [Act.put, lyA, lyB, lyC]
      refine AnyL.take (i := 4) (oi := ⟨some 47, _, _, _, _, _⟩) (v := _) rfl (by kernel_rfl) (by kernel_rfl) (by kernel_rfl) (by kernel_rfl) (fun _ _ _ h => h) (Or.inl ⟨by kernel_rfl, by intro w hSw; (try dsimp only at hSw); go_simp; try with_reducible rfl⟩) (by assumption) ?_
      simp only [Act.put, lyA, lyB, lyC]
      refine AnyL.take (i := 5) (oi := ⟨some 48, _, _, _, _, _⟩) (v := _) rfl (by kernel_rfl) (by kernel_rfl) (by kernel_rfl) (by kernel_rfl) (fun _ _ _ h => h) (Or.inl ⟨by kernel_rfl, by intro w hSw; (try dsimp only at hSw); go_simp; try with_reducible rfl⟩) (by assumption) ?_
      simp only [Act.put, lyA, lyB, lyC]
      refine AnyL.take (i := 6) (oi := ⟨some 49, _, _, _, _, _⟩) (v := _) rfl (by kernel_rfl) (by kernel_rfl) (by kernel_rfl) (by kernel_rfl) (fun _ _ _ h => h) (Or.inl ⟨by kernel_rfl, by intro w hSw; (try dsimp only at hSw); go_simp; try with_reducible rfl⟩) (by assumption) ?_
      simp only [Act.put, lyA, lyB, lyC]
      refine AnyL.take (i := 7) (oi := ⟨some 50, _, _, _, _, _⟩) (v := _) rfl (by kernel_rfl) (by kernel_rfl) (by kernel_rfl) (by kernel_rfl) (fun _ _ _ h => h) (Or.inl ⟨by kernel_rfl, by intro w hSw; (try dsimp only at hSw); go_simp; try with_reducible rfl⟩) (by assumption) ?_
      simp only [Act.put, lyA, lyB, lyC]
      refine AnyL.take (i := 8) (oi := ⟨some 51, _, _, _, _, _⟩) (v := _) rfl (by kernel_rfl) (by kernel_rfl) (by kernel_rfl) (by kernel_rfl) (fun _ _ _ h => h) (Or.inl ⟨by kernel_rfl, by intro w hSw; (try dsimp only at hSw); go_simp; try with_reducible rfl⟩) (by assumption) ?_
      simp only [Act.put, lyA, lyB, lyC]
      refine AnyL.take (i := 9) (oi := ⟨some 52, _, _, _, _, _⟩) (v := _) rfl (by kernel_rfl) (by kernel_rfl) (by kernel_rfl) (by kernel_rfl) (fun _ _ _ h => h) (Or.inl ⟨by kernel_rfl, by intro w hSw; (try dsimp only at hSw); go_simp; try with_reducible rfl⟩) (by assumption) ?_
      simp only [Act.put, lyA, lyB, lyC]
      refine AnyL.take (i := 10) (oi := ⟨some 53, _, _, _, _, _⟩) (v := _) rfl (by kernel_rfl) (by kernel_rfl) (by kernel_rfl) (by kernel_rfl) (fun _ _ _ h => h) (Or.inl ⟨by kernel_rfl, by intro w hSw; (try dsimp only at hSw); go_simp; try with_reducible rfl⟩) (by assumption) ?_
      simp only [Act.put, lyA, lyB, lyC]
      refine AnyL.take (i := 11) (oi := ⟨some 54, _, _, _, _, _⟩) (v := _) rfl (by kernel_rfl) (by kernel_rfl) (by kernel_rfl) (by kernel_rfl) (fun _ _ _ h => h) (Or.inl ⟨by kernel_rfl, by intro w hSw; (try dsimp only at hSw); go_simp; try with_reducible rfl⟩) (by assumption) ?_
      simp only [Act.put, lyA, lyB, lyC]
      refine AnyL.take (i := 12) (oi := ⟨some 55, _, _, _, _, _⟩) (v := _) rfl (by kernel_rfl) (by kernel_rfl) (by kernel_rfl) (by kernel_rfl) (fun _ _ _ h => h) (Or.inl ⟨by kernel_rfl, by intro w hSw; (try dsimp only at hSw); go_simp; try with_reducible rfl⟩) (by assumption) ?_
      simp only [Act.put, lyA, lyB, lyC]
      refine AnyL.take (i := 13) (oi := ⟨some 56, _, _, _, _, _⟩) (v := _) rfl (by kernel_rfl) (by kernel_rfl) (by kernel_rfl) (by kernel_rfl) (fun _ _ _ h => h) (Or.inl ⟨by kernel_rfl, by intro w hSw; (try dsimp only at hSw); go_simp; try with_reducible rfl⟩) (by assumption) ?_
      simp only [Act.put, lyA, lyB, lyC]
      refine AnyL.one (i := 14) (o := ⟨some 57, _, _, _, _, _⟩) (by kernel_rfl) rfl (fun K hK => ?_)
      go_simp
      refine hK.out _ _ ?_ (fun hHeld2 => ?_)
      · (first | (try dsimp only); go_keep | (go_split_ands; refine ⟨?_, ?_, ?_, ?_⟩ <;> first | exact keepB bx1 (by assumption) | assumption))
      clear hK K hHeld
      have hHeld := hHeld2
      clear hHeld2
      try simp only [Act.put, lyA, lyB, lyC]
      refine AnyL.one (i := 15) (o := ⟨some 58, _, _, _, _, _⟩) (by kernel_rfl) rfl (fun K hK => ?_)
      go_simp
      refine hK.out _ _ ?_ (fun hHeld2 => ?_)
      · (first | (try dsimp only); go_keep | (go_split_ands; refine ⟨?_, ?_, ?_, ?_⟩ <;> first | exact keepB bx1 (by assumption) | assumption))
      clear hK K hHeld
      have hHeld := hHeld2
      clear hHeld2
      try simp only [Act.put, lyA, lyB, lyC]
      refine AnyL.last (o := ⟨none, _, _, _, _, _⟩) (by kernel_rfl) rfl (by kernel_rfl) (fun K hK => ?_)
      go_simp
      refine hK.out _ _ ?_
      clear hK K hHeld
      obtain ⟨wY, hwY⟩ : ∃ x, x = (wX.setCell ⟨B, 3, none⟩ (.int .i64 (z + (WL - G)))).drew := ⟨_, rfl⟩
      have hzY : wY.heap.size = wX.heap.size := by rw [hwY]; simp [World.setCell, World.drew]
      have HmY := Lib.hid (show MB wY B (.slice A es.length c) a (b + G) (z + (WL - G)) by rw [hwY]; exact HmX.out.set3 _)
      have HoY := Lib.hid (show OwnE wY base s 58 92 38 (.slice A es.length c) es by rw [hwY]; exact HoX.out.setFar (p := ⟨B, 3, none⟩) HmX.out (by decide) (by decide) (by decide) _)
      have HbY := Lib.hid (show Below base w wY by rw [hwY]; exact (fun {x : World} (h : Below base w x) => (⟨h.os, h.tape, h.output, h.size, h.block⟩ : Below base w x.drew)) (HbX.out.setCell (p := ⟨B, 3, none⟩) (by show base ≤ B; omega) _))
      obtain ⟨⟨q0, q1, q2, q3⟩, ⟨fq0, fq1, fq2, fq3⟩⟩ := HmY.out.cells
      have hsY : s ≤ wY.heap.size := by omega
      have hBY : B < wY.heap.size := by omega
      rw [← hwY]
      clear hwY hzY n0 n1 n2 n3 fn0 fn1 fn2 fn3 k0 k1 k2 HoX HmX HbX hgl har g1 g2 g3 g4 g5 hb9 hz9 hlp hl9 hh9 hnk hk hz2 hzr hsw hsX hBX hd2 hp2 hne hBw
      have g9 : wrap64 ((i : Int) + 1) = (i : Int) + 1 := w64 (by omega)
      go_wp2_with fail
      refine (DeleteO_any base s i es.length c A es wY HoY.out hi9 (by omega) (by omega)).mono ?_
      rintro e wZ ⟨rfl, oZ, gZ⟩
      have eB := gZ.other B (by omega) (Hap.out B hsB)
      have HmZ := Lib.hid (HmY.out.kept eB)
      have HoZ := Lib.hid oZ
      have HbZ := Lib.hid (HbY.out.trans gZ.below)
      have hzZ : wY.heap.size ≤ wZ.heap.size := gZ.size
      obtain ⟨⟨r0, r1, r2, r3⟩, ⟨fr0, fr1, fr2, fr3⟩⟩ := HmZ.out.cells
      have hel : (es.take i ++ es.drop (i + 1)) = es.eraseIdx i := (List.eraseIdx_eq_take_drop_succ es i).symm
      have Hel := Lib.hid hel
      clear q0 q1 q2 q3 fq0 fq1 fq2 fq3 HmY HoY HbY gZ oZ eB hel
      clear hi0 hi1 g9
      go_wp2
      refine bodyPost_end (v := .tuple #[]) (by simp [results, Tryz.results47, go_sem, *]) rfl ?_
      refine ⟨rfl, HbZ.out.setCell (p := ⟨B, 0, none⟩) (by show base ≤ B; omega) _, .slice A (es.length - 1) c, ?_, ?_⟩
      · rw [← Hel.out]
        exact (HoZ.out.setFar (p := ⟨B, 0, none⟩) HmZ.out (by decide) (by decide) (by decide) _).wide (Nat.le_refl _) (by simp [World.setCell]; omega)
      · rw [← HG9.out, ← HWL.out]
        exact HmZ.out.set0 _
end Go.Proofs.YtkgepklapglmdaaGreatDoor
