/-
  Lemmas and contracts of single functions of this program, used by the proofs of its laws: what each call returns and what becomes of memory. Conditions: the hypotheses of each theorem.
-/
import Derived.Test.YteckjiaaikdghaaLsR
namespace Go.Proofs.Yteckjiaaikdghaa
open Go.RowKit
attribute [local go_sem ↓] Go.wp_at_zero Go.wp_at_succ

theorem copyIntsR_any (lo hi : Nat) (v : Value) (xs : List Int) (w : World) (h : Ints w lo hi v xs) (hhi : hi ≤ w.heap.size) (hl : xs.length ≤ 1099511627776) :
    Calls Try.prog 89 #[v] w fun e w' => ∃ v', e = .returned v' ∧ OwnI w' w.heap.size 3 v' xs ∧ Below w.heap.size w w' := by
  obtain ⟨A, c, rfl, hc, hm⟩ := h.form
  have h2 : Ints (w.alloc (.cells #[] 3)) lo hi (.slice A xs.length c) xs := h.kept fun k _ hk => Below.heap_alloc w _ k (by omega)
  go_enter Try.func89, Try.ntmps89
  go_wp2_with (at_builtin; refine wpList_appendIs SlI _ rfl (.tmp 3) (.tmp 4) rfl _ _ _ w.heap.size _ [] _ rfl rfl (OwnI.empty _ _ _ (Nat.le_refl _)) h2 (by simpa using hl) (by simp) ?_; intro v' w1 hown1 hg)
  go_ret
  exact ⟨_, rfl, by simpa using hown1, ((Below.refl _ _).alloc (Nat.le_refl _) _).trans hg.below⟩
set_option maxRecDepth 100000 in
set_option maxHeartbeats 2000000 in
theorem splices_any (lo hi l2 h2 : Nat) (v u : Value) (P W : List Int) (w : World) (h : Ints w lo hi v P) (hhi : hi ≤ w.heap.size) (hy : Ints w l2 h2 u W) (hh2 : h2 ≤ w.heap.size) (hen : enL P W 0 = true) :
    Calls Try.prog 90 #[v, u, .int .i64 0] w fun e w' => SpPost P W w e w' := by
  obtain ⟨A, c, rfl, hc, hm⟩ := h.form
  obtain ⟨B, d, rfl, hd, hm2⟩ := hy.form
  have hW60 := (en_sums hen).2.2.2.1
  go_enter Try.func90, Try.ntmps90
  go_wp2_with (at_make; refine wpList_makeI SlI _ rfl _ _ rfl w.heap.size W.length rfl rfl (by omega) (Nat.le_refl _) ?_; intro w1 ho hb1 hs1)
  have hP1 := h.below hb1 hhi
  have hW1 := hy.below hb1 hh2
  have Hb1 := Lib.hid hb1
  have Ho := Lib.hid ho
  clear ho hb1 h hy
  refine (pieces_any lo hi l2 h2 _ _ P W w1 hP1 (by omega) hW1 (by omega) hen).mono ?_
  rintro e w2 ⟨v2, q, rfl, ho2, hiq, hb2⟩
  have hfo := ho2.form
  obtain ⟨A2, c2, rfl, hc2, hm2'⟩ := hfo
  have Hq := Lib.hid (show (runP P W (Pst.start W) q).acc.length = nPc P W from run_all hen hiq)
  have hpl := (few_pieces hen q).1
  have HR := Lib.hid (fun j hj => gr_len4 (P := P) (W := W) (k := q) (j := j) hj)
  obtain ⟨acc, hacc⟩ : ∃ acc, acc = (runP P W (Pst.start W) q).acc := ⟨_, rfl⟩
  rw [← hacc] at Hq hpl HR ho2 hc2 ⊢
  have HT := Lib.hid ho2.ts
  have HO2 := Lib.hid (Ho.out.kept (.of_below hb2 (Nat.le_refl _)))
  have Hb2 := Lib.hid (Hb1.out.trans (hb2.mono (Nat.le_of_lt hs1)))
  have hz2 := hb2.size
  clear hacc hiq hen hb2 ho2 Ho hP1 hW1 Hb1
  go_wp2
  go_loopw [9] (fun i wr => ∃ (m : Nat) (ys : List Int), m ≤ acc.length ∧ i = .int .i64 m ∧ OwnI wr w.heap.size 3 (.slice (some ⟨w.heap.size, 0, none⟩) W.length W.length) ys ∧ Below w.heap.size w wr ∧ Hid (SpI W.length m 0 m ys) ∧ TS wr w1.heap.size w2.heap.size 4 (.slice A2 acc.length c2) acc) (fun i _ => acc.length - (intOf i).toNat)
  case atStart => exact ⟨0, _, Nat.zero_le _, rfl, HO2.out, Hb2.out, SpI.zeros _, HT.out⟩
  case round =>
    obtain ⟨m, zs, hm, rfl, hown, hb, HS, hTx⟩ := hrel
    clear HO2 Hb2 HT
    by_cases hlt : m < acc.length
    · obtain ⟨b, o, rfl, hbl, hbh, e0, e1, e2, e3⟩ := hTx.c4 hlt
      obtain ⟨r, hr, hrW⟩ := HR.out m hlt
      rw [hr] at e1
      clear hr e0 e2 e3
      have hzl := HS.out.1
      have hng := HS.out.2.2 r hrW
      obtain ⟨g, hg, _, hgh, hc1, hf1, hst⟩ := hown.at_ (i := r) (by omega)
      simp only [Option.some.injEq, Addr.mk.injEq, and_true] at hg
      subst hg
      obtain ⟨x, hx⟩ : ∃ x, x = gi zs r := ⟨_, rfl⟩
      rw [← hx] at hc1 hng
      have Hst := Lib.hid (hst (x + 1) ⟨by omega, by omega⟩)
      have hm0 : (0 : Int) ≤ (m : Int) := by omega
      have hm1 : (m : Int) < (acc.length : Int) := by omega
      have hr0 : (0 : Int) ≤ (r : Int) := by omega
      have hr1 : (r : Int) < (W.length : Int) := by omega
      have HN := Lib.hid (show SpI W.length ((m + 1 : Nat) : Int) 0 ((m + 1 : Nat) : Int) (zs.set r (x + 1)) from HS.out.set hrW (by omega) (by omega) ⟨by omega, by omega⟩ (by rw [← hx]; omega))
      have HTx := Lib.hid hTx
      have Hb := Lib.hid hb
      have hx3 : wrap64 (x + 1) = x + 1 := w64 (by omega)
      have hx4 : IntKind.i64.wrap (x + 1) = x + 1 := IntWalk.i64_in _ (by omega)
      clear hx hst hTx hb hown HS hzl
      go_wp2
      refine wp_region_last (S := fun w' => w'.cell? ⟨b, o + m * 4 + 1, none⟩ = some (.int .i64 ((r : Int))) ∧ w'.cell? ⟨w.heap.size, r, none⟩ = some (.int .i64 x)) 16 (by kernel_rfl) ?_ (fun hHeld => ?_)
      · (first | (try dsimp only); go_keep | (go_split_ands; refine ⟨?_, ?_⟩ <;> first | exact keepB bx5 (by assumption) | exact keepB bx4 (by assumption) | exact keepB bx3 (by assumption) | exact keepB bx2 (by assumption) | exact keepB bx1 (by assumption) | exact keepO bo5 (by first | (simp; done) | (simp; omega)) (by assumption) | exact keepO bo4 (by first | (simp; done) | (simp; omega)) (by assumption) | exact keepO bo3 (by first | (simp; done) | (simp; omega)) (by assumption) | exact keepO bo2 (by first | (simp; done) | (simp; omega)) (by assumption) | exact keepO bo1 (by first | (simp; done) | (simp; omega)) (by assumption) | exact keepW bg2 (by first | (simp; done) | (simp; omega)) (by assumption) | exact keepW bg1 (by first | (simp; done) | (simp; omega)) (by assumption) | assumption))
      refine AnyL.take (i := 0) (oi := ⟨some 24, _, _, _, _, _⟩) (v := _) rfl (by kernel_rfl) (by kernel_rfl) (by kernel_rfl) (by kernel_rfl) (fun _ _ _ h => h) (Or.inl ⟨by kernel_rfl, by intro w hSw; (try dsimp only at hSw); go_simp; try with_reducible rfl⟩) (by assumption) ?_
      simp only [Act.put, List.setIfInBounds_toArray, List.set_cons_zero, List.set_cons_succ]
      refine AnyL.take (i := 1) (oi := ⟨some 25, _, _, _, _, _⟩) (v := _) rfl (by kernel_rfl) (by kernel_rfl) (by kernel_rfl) (by kernel_rfl) (fun _ _ _ h => h) (Or.inl ⟨by kernel_rfl, by intro w hSw; (try dsimp only at hSw); go_simp; try with_reducible rfl⟩) (by assumption) ?_
      simp only [Act.put, List.setIfInBounds_toArray, List.set_cons_zero, List.set_cons_succ]
      refine AnyL.take (i := 2) (oi := ⟨some 26, _, _, _, _, _⟩) (v := _) rfl (by kernel_rfl) (by kernel_rfl) (by kernel_rfl) (by kernel_rfl) (fun _ _ _ h => h) (Or.inl ⟨by kernel_rfl, by intro w hSw; (try dsimp only at hSw); go_simp; try with_reducible rfl⟩) (by assumption) ?_
      simp only [Act.put, List.setIfInBounds_toArray, List.set_cons_zero, List.set_cons_succ]
      refine AnyL.take (i := 3) (oi := ⟨some 27, _, _, _, _, _⟩) (v := _) rfl (by kernel_rfl) (by kernel_rfl) (by kernel_rfl) (by kernel_rfl) (fun _ _ _ h => h) (Or.inl ⟨by kernel_rfl, by intro w hSw; (try dsimp only at hSw); go_simp; try with_reducible rfl⟩) (by assumption) ?_
      simp only [Act.put, List.setIfInBounds_toArray, List.set_cons_zero, List.set_cons_succ]
      refine AnyL.take (i := 4) (oi := ⟨some 28, _, _, _, _, _⟩) (v := _) rfl (by kernel_rfl) (by kernel_rfl) (by kernel_rfl) (by kernel_rfl) (fun _ _ _ h => h) (Or.inl ⟨by kernel_rfl, by intro w hSw; (try dsimp only at hSw); go_simp; try with_reducible rfl⟩) (by assumption) ?_
      simp only [Act.put, List.setIfInBounds_toArray, List.set_cons_zero, List.set_cons_succ]
      refine AnyL.take (i := 5) (oi := ⟨some 29, _, _, _, _, _⟩) (v := _) rfl (by kernel_rfl) (by kernel_rfl) (by kernel_rfl) (by kernel_rfl) (fun _ _ _ h => h) (Or.inl ⟨by kernel_rfl, by intro w hSw; (try dsimp only at hSw); go_simp; try with_reducible rfl⟩) (by assumption) ?_
      simp only [Act.put, List.setIfInBounds_toArray, List.set_cons_zero, List.set_cons_succ]
      refine AnyL.take (i := 6) (oi := ⟨some 30, _, _, _, _, _⟩) (v := _) rfl (by kernel_rfl) (by kernel_rfl) (by kernel_rfl) (by kernel_rfl) (fun _ _ _ h => h) (Or.inl ⟨by kernel_rfl, by intro w hSw; (try dsimp only at hSw); go_simp; try with_reducible rfl⟩) (by assumption) ?_
      simp only [Act.put, List.setIfInBounds_toArray, List.set_cons_zero, List.set_cons_succ]
      refine AnyL.take (i := 7) (oi := ⟨some 31, _, _, _, _, _⟩) (v := _) rfl (by kernel_rfl) (by kernel_rfl) (by kernel_rfl) (by kernel_rfl) (fun _ _ _ h => h) (Or.inl ⟨by kernel_rfl, by intro w hSw; (try dsimp only at hSw); go_simp; try with_reducible rfl⟩) (by assumption) ?_
      simp only [Act.put, List.setIfInBounds_toArray, List.set_cons_zero, List.set_cons_succ]
      refine AnyL.take (i := 8) (oi := ⟨some 32, _, _, _, _, _⟩) (v := _) rfl (by kernel_rfl) (by kernel_rfl) (by kernel_rfl) (by kernel_rfl) (fun _ _ _ h => h) (Or.inl ⟨by kernel_rfl, by intro w hSw; (try dsimp only at hSw); go_simp; try with_reducible rfl⟩) (by assumption) ?_
      simp only [Act.put, List.setIfInBounds_toArray, List.set_cons_zero, List.set_cons_succ]
      refine AnyL.take (i := 9) (oi := ⟨some 33, _, _, _, _, _⟩) (v := _) rfl (by kernel_rfl) (by kernel_rfl) (by kernel_rfl) (by kernel_rfl) (fun _ _ _ h => h) (Or.inl ⟨by kernel_rfl, by intro w hSw; (try dsimp only at hSw); go_simp; try with_reducible rfl⟩) (by assumption) ?_
      simp only [Act.put, List.setIfInBounds_toArray, List.set_cons_zero, List.set_cons_succ]
      refine AnyL.take (i := 10) (oi := ⟨some 34, _, _, _, _, _⟩) (v := _) rfl (by kernel_rfl) (by kernel_rfl) (by kernel_rfl) (by kernel_rfl) (fun _ _ _ h => h) (Or.inl ⟨by kernel_rfl, by intro w hSw; (try dsimp only at hSw); go_simp; try with_reducible rfl⟩) (by assumption) ?_
      simp only [Act.put, List.setIfInBounds_toArray, List.set_cons_zero, List.set_cons_succ]
      refine AnyL.take (i := 11) (oi := ⟨some 35, _, _, _, _, _⟩) (v := _) rfl (by kernel_rfl) (by kernel_rfl) (by kernel_rfl) (by kernel_rfl) (fun _ _ _ h => h) (Or.inl ⟨by kernel_rfl, by intro w hSw; (try dsimp only at hSw); go_simp; try with_reducible rfl⟩) (by assumption) ?_
      simp only [Act.put, List.setIfInBounds_toArray, List.set_cons_zero, List.set_cons_succ]
      refine AnyL.take (i := 12) (oi := ⟨some 36, _, _, _, _, _⟩) (v := _) rfl (by kernel_rfl) (by kernel_rfl) (by kernel_rfl) (by kernel_rfl) (fun _ _ _ h => h) (Or.inl ⟨by kernel_rfl, by intro w hSw; (try dsimp only at hSw); go_simp; try with_reducible rfl⟩) (by assumption) ?_
      simp only [Act.put, List.setIfInBounds_toArray, List.set_cons_zero, List.set_cons_succ]
      refine AnyL.take (i := 13) (oi := ⟨some 37, _, _, _, _, _⟩) (v := _) rfl (by kernel_rfl) (by kernel_rfl) (by kernel_rfl) (by kernel_rfl) (fun _ _ _ h => h) (Or.inl ⟨by kernel_rfl, by intro w hSw; (try dsimp only at hSw); go_simp; try with_reducible rfl⟩) (by assumption) ?_
      simp only [Act.put, List.setIfInBounds_toArray, List.set_cons_zero, List.set_cons_succ]
      refine AnyL.take (i := 14) (oi := ⟨some 38, _, _, _, _, _⟩) (v := _) rfl (by kernel_rfl) (by kernel_rfl) (by kernel_rfl) (by kernel_rfl) (fun _ _ _ h => h) (Or.inl ⟨by kernel_rfl, by intro w hSw; (try dsimp only at hSw); go_simp; try with_reducible rfl⟩) (by assumption) ?_
      simp only [Act.put, List.setIfInBounds_toArray, List.set_cons_zero, List.set_cons_succ]
      refine AnyL.take (i := 15) (oi := ⟨some 39, _, _, _, _, _⟩) (v := _) rfl (by kernel_rfl) (by kernel_rfl) (by kernel_rfl) (by kernel_rfl) (fun _ _ _ h => h) (Or.inl ⟨by kernel_rfl, by intro w hSw; (try dsimp only at hSw); go_simp; try with_reducible rfl⟩) (by assumption) ?_
      simp only [Act.put, List.setIfInBounds_toArray, List.set_cons_zero, List.set_cons_succ]
      refine AnyL.last (o := ⟨none, _, _, _, _, _⟩) (by kernel_rfl) rfl (by kernel_rfl) (fun K hK => ?_)
      go_simp
      refine hK.out _ _ ?_
      clear hK K hHeld
      go_wp2
      go_roundw
      case rel => exact ⟨m + 1, zs.set r (x + 1), hlt, by go_num, Hst.out, (Hb.out.setCell (p := ⟨w.heap.size, r, none⟩) (Nat.le_refl _) _).drew, HN.out, HTx.out.kept fun k hk _ => Below.heap_setCell _ _ _ _ (by show k ≠ w.heap.size; omega)⟩
      case measure => simp [intOf]; omega
    · have hme : m = acc.length := by omega
      have hni : ¬ (m : Int) < (acc.length : Int) := by omega
      have HS2 := Lib.hid (show SpI W.length (nPc P W : Int) 0 130 zs by
        have h1 := HS.out
        rw [hme, Hq.out] at h1
        exact ⟨h1.1, h1.2.1, fun i hi => by have h2 := h1.2.2 i hi; have h3 := Hq.out; omega⟩)
      have Hb := Lib.hid hb
      have Ho := Lib.hid hown
      clear hown hb HS hTx
      obtain ⟨wo, rfl⟩ : ∃ wo : World, wo = wr := ⟨_, rfl⟩
      go_wp2
      go_loopw [10] (fun i wr => ∃ (k : Nat) (ys : List Int), k ≤ W.length ∧ i = .int .i64 k ∧ OwnI wr w.heap.size 3 (.slice (some ⟨w.heap.size, 0, none⟩) W.length W.length) ys ∧ Below w.heap.size w wr ∧ Hid (SpI W.length ((nPc P W : Int) - k) (-k) 130 ys)) (fun i _ => W.length - (intOf i).toNat)
      case atStart => exact ⟨0, zs, Nat.zero_le _, rfl, Ho.out, Hb.out, by show SpI _ _ _ _ _; simpa using HS2.out⟩
      case round =>
        obtain ⟨k, ys, hk, rfl, hown, hb, HS⟩ := hrel
        clear Ho Hb HS2
        by_cases hlt : k < W.length
        · have hyl := HS.out.1
          have hng := HS.out.2.2 k hlt
          obtain ⟨g, hg, _, hgh, hc1, hf1, hst⟩ := hown.at_ (i := k) (by omega)
          simp only [Option.some.injEq, Addr.mk.injEq, and_true] at hg
          subst hg
          obtain ⟨x, hx⟩ : ∃ x, x = gi ys k := ⟨_, rfl⟩
          rw [← hx] at hc1 hng
          have Hst := Lib.hid (hst (x - 1) ⟨by omega, by omega⟩)
          have hk0 : (0 : Int) ≤ (k : Int) := by omega
          have hk1 : (k : Int) < (W.length : Int) := by omega
          have HN := Lib.hid (show SpI W.length ((nPc P W : Int) - ((k + 1 : Nat) : Int)) (-((k + 1 : Nat) : Int)) 130 (ys.set k (x - 1)) from HS.out.set hlt (by omega) (by omega) ⟨by omega, by omega⟩ (by rw [← hx]; omega))
          have Hb := Lib.hid hb
          have hx3 : wrap64 (x - 1) = x - 1 := w64 (by omega)
          have hx4 : IntKind.i64.wrap (x - 1) = x - 1 := IntWalk.i64_in _ (by omega)
          clear hx hst hb hown HS hyl
          go_wp2
          go_roundw
          case rel => exact ⟨k + 1, ys.set k (x - 1), hlt, by go_num, Hst.out, Hb.out.setCell (Nat.le_refl _) _, HN.out⟩
          case measure => simp [intOf]; omega
        · have hke : k = W.length := by omega
          have hni : ¬ (k : Int) < (W.length : Int) := by omega
          have HF := Lib.hid (show SpI W.length (splT P W) (-200) 200 ys by
            have h1 := HS.out
            rw [hke] at h1
            exact ⟨h1.1, h1.2.1, fun i hi => by have h2 := h1.2.2 i hi; omega⟩)
          have Hb := Lib.hid hb
          have Ho := Lib.hid hown
          clear hown hb HS
          go_wp2
          go_ret
          exact ⟨_, ys, rfl, Ho.out, HF.out, Hb.out⟩
theorem bestO_ok (c : List Int → Int) {n : Nat} (hn : 0 < n) {d : Nat} {pre : List Int} (hb : Begun n pre) (hl : pre.length + d = n) : (bestO c n d pre).length = n ∧ Begun n (bestO c n d pre) := by
  obtain ⟨h1, h2, h3⟩ := best_all c hn d pre hb hl
  have h4 := firstO_min (c := c) h2 fun o ho e => by have := (h3 o ho).1; rw [e] at this; simp at this; omega
  rw [h1]
  exact h3 _ h4.1
theorem lsL_len (P W : List Int) : (lsL P W).length ≤ 5 := by
  unfold lsL
  split
  · rename_i h
    rcases Nat.eq_zero_or_pos W.length with h0 | h0
    · rw [h0]; simp [bestO]
    · rw [(best_least (cSpl P W) h0).1]; exact h.2
  · simp
theorem begun_ex {n : Nat} {o : List Int} (h : Begun n o) : ∀ x ∈ o, ∃ i : Nat, x = (i : Int) ∧ i < n := fun x hx => by
  obtain ⟨h1, h2⟩ := h.2 x hx
  obtain ⟨i, rfl⟩ := Int.eq_ofNat_of_zero_le h1
  exact ⟨i, rfl, by omega⟩
set_option maxRecDepth 100000 in
set_option maxHeartbeats 4000000 in
theorem leastSpliced_any (b0 lo hi l2 h2 : Nat) (v u : Value) (P W : List Int) (hen : enL P W 0 = true) (hW5 : W.length ≤ 5) : ∀ (d : Nat) (l3 h3 : Nat) (x : Value) (pre : List Int) (w : World), Ints w lo hi v P → hi ≤ w.heap.size → Ints w l2 h2 u W → h2 ≤ w.heap.size → Ints w l3 h3 x pre → h3 ≤ w.heap.size → Begun W.length pre → pre.length + d = W.length → b0 ≤ l3 → b0 ≤ w.heap.size →
    Calls Try.prog 47 #[v, u, x] w fun e w' => ∃ v', e = .returned v' ∧ Ints w' b0 w'.heap.size v' (bestO (cSpl P W) W.length d pre) ∧ Below w.heap.size w w'
  | 0, l3, h3, x, pre, w, h, hhi, hy, hh2, hx, hh3, hb, hl, hb0, hbw => by
    obtain ⟨A, c, rfl, hc, hm⟩ := h.form
    obtain ⟨B, d, rfl, hd, hm2⟩ := hy.form
    obtain ⟨C, f, rfl, hf, hm3⟩ := hx.form
    have heq : ((pre.length : Int) == (W.length : Int)) = true := beq_t (by omega)
    have Hx := Lib.hid hx
    clear hl
    go_enter Try.func47, Try.ntmps47
    go_wp2
    go_ret
    exact ⟨_, rfl, Hx.out.wide hb0 hh3, Below.refl _ _⟩
  | d + 1, l3, h3, x, pre, w, h, hhi, hy, hh2, hx, hh3, hb, hl, hb0, hbw => by
    have ih := leastSpliced_any b0 lo hi l2 h2 v u P W hen hW5 d
    obtain ⟨A, c, rfl, hc, hm⟩ := h.form
    obtain ⟨B, d2, rfl, hd, hm2⟩ := hy.form
    obtain ⟨C, f, rfl, hf, hm3⟩ := hx.form
    have heq : ((pre.length : Int) == (W.length : Int)) = false := beq_f (by omega)
    have hpl : pre.length < W.length := by omega
    have HL := Lib.hid hl
    have HIH := Lib.hid ih
    have HBG := Lib.hid hb
    have HH := Lib.hid h
    have HY := Lib.hid hy
    have HX := Lib.hid hx
    have hn0 : 0 < W.length := by omega
    have HE0 := Lib.hid (OwnI.empty w w.heap.size 3 (Nat.le_refl _)).ints
    have HB0 := Lib.hid (show Below w.heap.size w (w.alloc (.cells #[] 3)) from (Below.refl _ _).alloc (Nat.le_refl _) _)
    clear hl ih hb h hy hx
    go_enter Try.func47, Try.ntmps47
    go_wp2
    go_loopw [7, 8, 9] (fun b i _ wr => ∃ (k : Nat) (bl : List Int), k ≤ W.length ∧ i = .int .i64 k ∧ Ints wr b0 wr.heap.size b bl ∧ Below w.heap.size w wr ∧ Hid (bestO (cSpl P W) W.length (d + 1) pre = (restK W.length pre k).foldl (fun b x => stepO (cSpl P W) b (bestO (cSpl P W) W.length d (pre ++ [x]))) bl) ∧ Hid (bl = [] ∨ (bl.length = W.length ∧ Begun W.length bl))) (fun _ i _ _ => W.length - (intOf i).toNat)
    case atStart => exact ⟨0, [], Nat.zero_le _, rfl, HE0.out.wide hbw (Nat.le_refl _), HB0.out, rfl, .inl rfl⟩
    case round =>
      obtain ⟨k, bl, hk, rfl, hbi, hb, HE, HBL⟩ := hrel
      have hfo := hbi.form
      obtain ⟨D, g, rfl, hg, hm4⟩ := hfo
      have HBI := Lib.hid hbi
      have Hb := Lib.hid hb
      have hzr := hb.size
      clear hbi hb HE0 HB0
      by_cases hlt : k < W.length
      · have hk0 : (0 : Int) ≤ (k : Int) := by omega
        have hk1 : (k : Int) < (W.length : Int) := by omega
        have HK := Lib.hid (restK_step pre hlt)
        go_wp2_with fail
        refine (placeIn_any _ _ _ pre (k : Int) _ (HX.out.below Hb.out hh3)).mono ?_
        rintro e w1 ⟨rfl, rfl⟩
        cases hin : inL pre (k : Int)
        rotate_left
        · have hp0 : plc pre (k : Int) ≥ 0 := (plc_inL _ _).2 hin
          have HK2 := Lib.hid (show restK W.length pre k = restK W.length pre (k + 1) by rw [HK.out, hin]; rfl)
          obtain ⟨p, hp⟩ : ∃ p, p = plc pre (k : Int) := ⟨_, rfl⟩
          rw [← hp] at hp0 ⊢
          clear hin HK hp
          go_wp2
          go_roundw
          case rel => exact ⟨k + 1, bl, hlt, by go_num, HBI.out, Hb.out, by rw [← HK2.out]; exact HE.out, HBL.out⟩
          case measure => simp [intOf]; omega
        · have hp0 : ¬ plc pre (k : Int) ≥ 0 := fun h => by have := (plc_inL _ _).1 h; rw [hin] at this; cases this
          have HK2 := Lib.hid (show restK W.length pre k = (k : Int) :: restK W.length pre (k + 1) by rw [HK.out, hin]; rfl)
          have HNX := Lib.hid (HBG.out.next (x := (k : Int)) (restO_mem.2 ⟨⟨hk0, hk1⟩, hin⟩))
          obtain ⟨p, hp⟩ : ∃ p, p = plc pre (k : Int) := ⟨_, rfl⟩
          rw [← hp] at hp0 ⊢
          clear hin HK hp
          go_wp2_with fail
          refine (copyIntsR_any _ _ _ pre wr (HX.out.below Hb.out hh3) (by omega) (by omega)).mono ?_
          rintro e w2 ⟨v2, rfl, ho2, hb2⟩
          have hfo2 := ho2.form
          obtain ⟨A2, c2, rfl, _, _⟩ := hfo2
          have HO2 := Lib.hid ho2
          have HB2 := Lib.hid hb2
          have hz2 := hb2.size
          clear ho2 hb2
          go_wp2_with (at_builtin; refine wpList_appendI SlI _ rfl (.tmp 30) (.tmp 32) rfl (k : Int) wr.heap.size _ pre rfl rfl HO2.out ⟨by omega, by omega⟩ (by omega) hz2 ?_; intro v3 w3 ho3 hg3; have HO3 := Lib.hid ho3.ints; have HB3 := Lib.hid (Hb.out.trans ((HB2.out.trans hg3.below).mono hzr)); have HY3 := Lib.hid (HB2.out.trans hg3.below); clear ho3 hg3)
          have hz3 := HB3.out.size
          refine (HIH.out _ _ v3 (pre ++ [(k : Int)]) w3 (HH.out.below HB3.out hhi) (by omega) (HY.out.below HB3.out hh2) (by omega) HO3.out (Nat.le_refl _) HNX.out (by have := HL.out; rw [List.length_append, List.length_singleton]; omega) (by omega) (by omega)).mono ?_
          have HOK := Lib.hid (bestO_ok (cSpl P W) hn0 (d := d) HNX.out (by have := HL.out; rw [List.length_append, List.length_singleton]; omega))
          have HE2 := Lib.hid (show bestO (cSpl P W) W.length (d + 1) pre = (restK W.length pre (k + 1)).foldl (fun b x => stepO (cSpl P W) b (bestO (cSpl P W) W.length d (pre ++ [x]))) (stepO (cSpl P W) bl (bestO (cSpl P W) W.length d (pre ++ [(k : Int)]))) by
            rw [HE.out, HK2.out, List.foldl_cons])
          obtain ⟨o, ho⟩ : ∃ o, o = bestO (cSpl P W) W.length d (pre ++ [(k : Int)]) := ⟨_, rfl⟩
          rw [← ho] at HOK HE2 ⊢
          clear ho HE HK2 HNX HO2 HB2 HO3
          rintro e w4 ⟨v4, rfl, ho4, hb4⟩
          have hfo4 := ho4.form
          obtain ⟨A4, c4, rfl, _, _⟩ := hfo4
          have HO4 := Lib.hid ho4
          have HB4 := Lib.hid (HB3.out.trans (hb4.mono hz3))
          have HBI4 := Lib.hid ((HBI.out.below (HY3.out.trans (hb4.mono HY3.out.size)) (Nat.le_refl _)).wide (Nat.le_refl _) (HY3.out.trans (hb4.mono HY3.out.size)).size)
          have HZ0 := Lib.hid (Below.refl w4.heap.size w4)
          clear ho4 hb4 HY3 HBI Hb
          by_cases hbe : bl = []
          · subst hbe
            go_wp2
            go_roundw
            case rel => exact ⟨k + 1, o, hlt, by go_num, HO4.out, HB4.out, by have e : stepO (cSpl P W) [] o = o := if_pos (.inl rfl); rw [e] at HE2; exact HE2.out, .inr HOK.out⟩
            case measure => simp [intOf]; omega
          · have hbl0 : ((bl.length : Int) == 0) = false := beq_f (by have := List.length_pos_iff.2 hbe; omega)
            have HBL2 := Lib.hid (HBL.out.resolve_left hbe)
            have Hbe := Lib.hid hbe
            clear hbe HBL
            go_wp2_with fail
            refine (picked_any l2 h2 _ _ _ _ W o w4 (HY.out.below HB4.out hh2) (by have := HB4.out.size; omega) HO4.out (Nat.le_refl _) (by have := HOK.out.1; omega) (begun_ex HOK.out.2)).mono ?_
            rintro e a1 ⟨va1, rfl, oa1, ba1⟩
            have hfa1 := oa1.form
            obtain ⟨Aa1, ca1, hva1, _, _⟩ := hfa1
            subst hva1
            have HE1 := Lib.hid (en_perm (pick_perm HOK.out.2 HOK.out.1) hen)
            have HBA1 := Lib.hid (HB4.out.trans (ba1.mono HB4.out.size))
            have HZA1 := Lib.hid (HZ0.out.trans (ba1.mono HZ0.out.size))
            have HA1 := Lib.hid oa1.ints
            clear oa1 ba1
            go_wp2_with fail
            refine (splices_any lo hi _ _ _ _ P (pickO W o) a1 (HH.out.below HBA1.out hhi) (by have := HBA1.out.size; omega) HA1.out (Nat.le_refl _) HE1.out).mono ?_
            rintro e b1 ⟨vb1, y1, rfl, ob1, sb1, bb1⟩
            have hfb1 := ob1.form
            obtain ⟨Ab1, cb1, hvb1, _, _⟩ := hfb1
            subst hvb1
            have HS1 := Lib.hid (show sumI y1 y1.length = cSpl P W o by rw [sumI_sum, sb1.2.1, cSpl])
            have HL1 := Lib.hid (show y1.length ≤ 1000 by have h1 := sb1.1; rw [pick_len] at h1; have := HOK.out.1; omega)
            have HQ1 := Lib.hid (show ∀ i, i < y1.length → -1000 ≤ gi y1 i ∧ gi y1 i ≤ 1000 from fun i hi => by have := sb1.2.2 i (by rw [← sb1.1]; exact hi); omega)
            have HBB1 := Lib.hid (HBA1.out.trans (bb1.mono HBA1.out.size))
            have HZB1 := Lib.hid (HZA1.out.trans (bb1.mono HZA1.out.size))
            have HO1 := Lib.hid ob1.ints
            clear sb1 ob1 bb1
            go_wp2_with fail
            refine (sTotal_anyS _ _ _ y1 b1 HO1.out HL1.out HQ1.out).mono ?_
            rintro e w8 ⟨rfl, hw8⟩
            subst hw8
            rw [HS1.out]
            obtain ⟨x1, hx1⟩ : ∃ x, x = cSpl P W o := ⟨_, rfl⟩
            rw [← hx1]
            have HX1 := Lib.hid hx1
            clear hx1 HS1 HL1 HQ1 HO1 HE1 HA1
            have HBIx := Lib.hid (HBI4.out.below HZB1.out (Nat.le_refl _))
            have HBIw := Lib.hid (HBIx.out.wide (Nat.le_refl _) HZB1.out.size)
            go_wp2_with fail
            refine (picked_any l2 h2 _ _ _ _ W bl b1 (HY.out.below HBB1.out hh2) (by have := HBB1.out.size; omega) HBIw.out (Nat.le_refl _) (by have := HBL2.out.1; omega) (begun_ex HBL2.out.2)).mono ?_
            rintro e a2 ⟨va2, rfl, oa2, ba2⟩
            have hfa2 := oa2.form
            obtain ⟨Aa2, ca2, hva2, _, _⟩ := hfa2
            subst hva2
            have HE2 := Lib.hid (en_perm (pick_perm HBL2.out.2 HBL2.out.1) hen)
            have HBA2 := Lib.hid (HBB1.out.trans (ba2.mono HBB1.out.size))
            have HZA2 := Lib.hid (HZB1.out.trans (ba2.mono HZB1.out.size))
            have HA2 := Lib.hid oa2.ints
            clear oa2 ba2
            go_wp2_with fail
            refine (splices_any lo hi _ _ _ _ P (pickO W bl) a2 (HH.out.below HBA2.out hhi) (by have := HBA2.out.size; omega) HA2.out (Nat.le_refl _) HE2.out).mono ?_
            rintro e b2 ⟨vb2, y2, rfl, ob2, sb2, bb2⟩
            have hfb2 := ob2.form
            obtain ⟨Ab2, cb2, hvb2, _, _⟩ := hfb2
            subst hvb2
            have HS2 := Lib.hid (show sumI y2 y2.length = cSpl P W bl by rw [sumI_sum, sb2.2.1, cSpl])
            have HL2 := Lib.hid (show y2.length ≤ 1000 by have h1 := sb2.1; rw [pick_len] at h1; have := HBL2.out.1; omega)
            have HQ2 := Lib.hid (show ∀ i, i < y2.length → -1000 ≤ gi y2 i ∧ gi y2 i ≤ 1000 from fun i hi => by have := sb2.2.2 i (by rw [← sb2.1]; exact hi); omega)
            have HBB2 := Lib.hid (HBA2.out.trans (bb2.mono HBA2.out.size))
            have HZB2 := Lib.hid (HZA2.out.trans (bb2.mono HZA2.out.size))
            have HO2 := Lib.hid ob2.ints
            clear sb2 ob2 bb2
            go_wp2_with fail
            refine (sTotal_anyS _ _ _ y2 b2 HO2.out HL2.out HQ2.out).mono ?_
            rintro e w8 ⟨rfl, hw8⟩
            subst hw8
            rw [HS2.out]
            obtain ⟨x2, hx2⟩ : ∃ x, x = cSpl P W bl := ⟨_, rfl⟩
            rw [← hx2]
            have HX2 := Lib.hid hx2
            clear hx2 HS2 HL2 HQ2 HO2 HE2 HA2
            by_cases hlt2 : x1 < x2
            · have HN2 := Lib.hid (show stepO (cSpl P W) bl o = o from if_pos (.inr (by rw [← HX1.out, ← HX2.out]; exact hlt2)))
              go_wp2
              go_roundw
              case rel => exact ⟨k + 1, o, hlt, by go_num, (HO4.out.below HZB2.out (Nat.le_refl _)).wide (Nat.le_refl _) HZB2.out.size, HBB2.out, by rw [HN2.out] at HE2; exact HE2.out, .inr HOK.out⟩
              case measure => simp [intOf]; omega
            · have HN2 := Lib.hid (show stepO (cSpl P W) bl o = bl from if_neg fun h => h.elim Hbe.out fun h => hlt2 (by rw [HX1.out, HX2.out]; exact h))
              go_wp2
              go_roundw
              case rel => exact ⟨k + 1, bl, hlt, by go_num, (HBI4.out.below HZB2.out (Nat.le_refl _)).wide (Nat.le_refl _) HZB2.out.size, HBB2.out, by rw [HN2.out] at HE2; exact HE2.out, .inr HBL2.out⟩
              case measure => simp [intOf]; omega
      · have hni : ¬ (k : Int) < (W.length : Int) := by omega
        have HF := Lib.hid (show bestO (cSpl P W) W.length (d + 1) pre = bl by rw [HE.out, restK_end pre (by omega)]; rfl)
        go_wp2
        go_ret
        exact ⟨_, rfl, by rw [HF.out]; exact HBI.out, Hb.out⟩
set_option maxRecDepth 100000 in
set_option maxHeartbeats 2000000 in
theorem sLeastSpliced_any (lo hi l2 h2 : Nat) (v u : Value) (P W : List Int) (w : World) (h : Ints w lo hi v P) (hhi : hi ≤ w.heap.size) (hy : Ints w l2 h2 u W) (hh2 : h2 ≤ w.heap.size) :
    Calls Try.prog 12 #[v, u] w fun e w' => ∃ v', e = .returned v' ∧ Ints w' w.heap.size w'.heap.size v' (lsL P W) ∧ Below w.heap.size w w' := by
  obtain ⟨A, c, rfl, hc, hm⟩ := h.form
  obtain ⟨B, d, rfl, hd, hm2⟩ := hy.form
  have HH := Lib.hid h
  have HY := Lib.hid hy
  clear h hy
  have hnil : ∀ w : World, Ints w w.heap.size w.heap.size (.slice none 0 0) [] := fun w => (OwnI.nil w w.heap.size 3).ints
  go_enter Try.func12, Try.ntmps12
  go_wp2_with fail
  refine (enough_any lo hi l2 h2 _ _ P W 0 w HH.out HY.out).mono ?_
  rintro e x1 ⟨rfl, rfl⟩
  cases hen : enL P W 0
  · have HR := Lib.hid (show lsL P W = [] by unfold lsL; rw [hen]; simp)
    go_wp2
    go_ret
    exact ⟨_, rfl, by rw [HR.out]; exact hnil _, Below.refl _ _⟩
  · by_cases hl : W.length ≤ 5
    · have hl' : ¬ (5 : Int) < (W.length : Int) := by omega
      have HR := Lib.hid (show lsL P W = bestO (cSpl P W) W.length W.length [] by unfold lsL; rw [hen, if_pos ⟨rfl, hl⟩])
      have HE0 := Lib.hid (OwnI.empty w w.heap.size 3 (Nat.le_refl _)).ints
      have HB0 := Lib.hid (show Below w.heap.size w (w.alloc (.cells #[] 3)) from (Below.refl _ _).alloc (Nat.le_refl _) _)
      clear hnil
      go_wp2_with fail
      refine (leastSpliced_any w.heap.size lo hi l2 h2 _ _ P W hen hl W.length _ _ _ [] _ (HH.out.below HB0.out hhi) (by simp; omega) (HY.out.below HB0.out hh2) (by simp; omega) HE0.out (Nat.le_refl _) (begun_nil _) (by simp) (Nat.le_refl _) (by simp)).mono ?_
      rintro e w2 ⟨v2, rfl, ho2, hb2⟩
      have HO2 := Lib.hid ho2
      have HB2 := Lib.hid (HB0.out.trans (hb2.mono (by simp)))
      clear ho2 hb2
      go_wp2
      go_ret
      exact ⟨_, rfl, by rw [HR.out]; exact HO2.out, HB2.out⟩
    · have hl' : (5 : Int) < (W.length : Int) := by omega
      have HR := Lib.hid (show lsL P W = [] by unfold lsL; rw [if_neg fun h => hl h.2])
      go_wp2
      go_ret
      exact ⟨_, rfl, by rw [HR.out]; exact hnil _, Below.refl _ _⟩
end Go.Proofs.Yteckjiaaikdghaa
