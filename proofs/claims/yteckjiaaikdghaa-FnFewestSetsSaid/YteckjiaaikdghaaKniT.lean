/-
  Lemmas and contracts of single functions of this program, used by the proofs of its laws: what each call returns and what becomes of memory. Conditions: the hypotheses of each theorem.
-/
import Derived.Test.YteckjiaaikdghaaKniS
namespace Go.Proofs.Yteckjiaaikdghaa
open Go.RowKit
attribute [local go_sem ↓] Go.wp_at_zero Go.wp_at_succ

theorem OwnI.one {w : World} {base e : Nat} {y : Int} (hb : base ≤ w.heap.size) (hy : I64 y) : OwnI (w.alloc (.cells #[.int .i64 y] e)) base e (.slice (some ⟨w.heap.size, 0, none⟩) 1 1) [y] :=
  ⟨⟨by simp, .inr ⟨w.heap.size, 1, _, rfl, hb, heap_alloc_new w _, Nat.le_refl _, by simp [maxLen], by simp, by simp⟩⟩, fun z hz => by rw [List.mem_singleton.1 hz]; exact hy⟩
theorem OwnR.one {w : World} {base tS tI m c : Nat} {A : Option Addr} {ys : List Int} (hu : OwnI w base tI (.slice A m c) ys) (hb : base ≤ w.heap.size) : OwnR (w.alloc (.cells #[.slice A m c] tS)) base (w.heap.size + 1) tS tI (.slice (some ⟨w.heap.size, 0, none⟩) 1 1) [ys] := by
  refine ⟨[.slice A m c], ⟨by simp, .inr ⟨w.heap.size, 1, _, rfl, hb, heap_alloc_new w _, Nat.le_refl _, by simp [maxLen], by simp, by simp⟩⟩, fun g hg => by simp [Value.ownBlock] at hg; omega, fun k hk => ?_, fun j k hjk hk => by simp at hk; omega⟩
  have : k = 0 := by simp at hk; omega
  subst this
  exact ⟨hu.alloc _, fun g hg => by have := (hu.lt g hg).2; omega⟩
theorem tabO_snoc {n i : Nat} {f : Nat → Nat → Int} : tabO (i + 1) n (i + 1) f = tabO i n i f ++ [(List.range n).map (f i)] := by
  unfold tabO
  rw [List.range_succ, List.map_append]
  congr 1
  · apply List.map_congr_left
    intro r hr
    have := List.mem_range.1 hr
    rw [if_pos (by omega), if_pos this]
  · simp
theorem row_snoc {k : Nat} {g : Nat → Int} : (List.range (k + 1)).map g = (List.range k).map g ++ [g k] := by
  rw [List.range_succ, List.map_append]; rfl
theorem mvT_rng {a b : List Int} (ha : vKn a = true) (hb : vKn b = true) {i j : Nat} (hi : i ≤ a.length) (hj : j ≤ b.length) : -1 ≤ mvT a b i j ∧ mvT a b i j ≤ 1440 := by
  have h1 := vKn_iff.1 ha
  have h2 := vKn_iff.1 hb
  have h := lw_mv h1.2.1 h2.2.1 h1.1 i hi j hj
  rcases Nat.lt_or_ge j i with hlt | hge
  · have := (h.2 hlt).2; omega
  · have := h.1 hge; omega
theorem mvT_step {a b : List Int} {i j : Nat} : mvT a b (i + 1) (j + 1) = if 0 ≤ mvT a b i j then (if mvT a b (i + 1) j < 0 ∨ mvT a b i j + wayI (gi a i) (gi b j) < mvT a b (i + 1) j then mvT a b i j + wayI (gi a i) (gi b j) else mvT a b (i + 1) j) else mvT a b (i + 1) j := rfl
set_option maxRecDepth 100000 in
set_option maxHeartbeats 4000000 in
theorem moveTable_any (lo hi l2 h2 : Nat) (v u : Value) (a b : List Int) (w : World) (h : Ints w lo hi v a) (hhi : hi ≤ w.heap.size) (hy : Ints w l2 h2 u b) (hh2 : h2 ≤ w.heap.size) (ha : vKn a = true) (hb : vKn b = true) :
    Calls Try.prog 125 #[v, u] w fun e w' => ∃ v', e = .returned v' ∧ IRows w' w.heap.size w'.heap.size v' (tabO (a.length + 1) (b.length + 1) (a.length + 1) (mvT a b)) ∧ Below w.heap.size w w' := by
  obtain ⟨A, c, rfl, hc, hm⟩ := h.form
  obtain ⟨B, d, rfl, hd, hm2⟩ := hy.form
  have hva := vKn_iff.1 ha
  have hvb := vKn_iff.1 hb
  have hal := hva.1
  have hbl := hvb.1
  have HRA := Lib.hid hva.2.1
  have HRB := Lib.hid hvb.2.1
  have HRG := Lib.hid (fun i j hi hj => mvT_rng ha hb (i := i) (j := j) hi hj)
  obtain ⟨n, hnE⟩ : ∃ n, n = b.length + 1 := ⟨_, rfl⟩
  rw [← hnE]
  have hnb : (b.length : Int) + 1 = (n : Int) := by omega
  have HNE := Lib.hid hnE
  have hn25 : n ≤ 25 := by omega
  have hn0 : 1 ≤ n := by omega
  obtain ⟨f, hf⟩ : ∃ f, f = mvT a b := ⟨_, rfl⟩
  rw [← hf] at HRG ⊢
  have HF := Lib.hid hf
  have HH := Lib.hid h
  have HY := Lib.hid hy
  clear hva hvb ha hb hnE hf h hy
  go_enter Try.func125, Try.ntmps125
  go_wp2_with (at_make; refine wpList_makeI SlI _ rfl _ _ rfl w.heap.size n rfl rfl (by omega) (Nat.le_refl _) ?_; intro w1 ho hb1 hs1)
  have HO0 := Lib.hid (show OwnR (w1.alloc (.cells #[.slice (some ⟨w.heap.size, 0, none⟩) n n] 22)) w.heap.size (w1.alloc (.cells #[.slice (some ⟨w.heap.size, 0, none⟩) n n] 22)).heap.size 22 3 (.slice (some ⟨w1.heap.size, 0, none⟩) 1 1) (tabO 1 n 1 f) by
    have e : tabO 1 n 1 f = [List.replicate n 0] := by
      unfold tabO
      simp only [List.range_succ, List.range_zero, List.nil_append, List.map_cons, List.map_nil]
      rw [if_pos (by omega), HF.out]
      congr 1
      apply List.ext_getElem
      · simp
      · intro i h1 h2; simp [mvT]
    rw [e]
    have := OwnR.one (tS := 22) ho (Nat.le_of_lt hs1)
    simpa using this)
  have HB0 := Lib.hid (hb1.alloc (Nat.le_of_lt hs1) (.cells #[.slice (some ⟨w.heap.size, 0, none⟩) n n] 22))
  clear ho hb1
  go_loopw [5, 6, 7, 8, 9, 10] (fun o i _ _ _ _ wr => ∃ k : Nat, 1 ≤ k ∧ k ≤ a.length + 1 ∧ i = .int .i64 k ∧ Hid (OwnR wr w.heap.size wr.heap.size 22 3 o (tabO k n k f)) ∧ Hid (Below w.heap.size w wr)) (fun _ i _ _ _ _ _ => a.length + 1 - (intOf i).toNat)
  case atStart => exact ⟨1, Nat.le_refl _, by omega, rfl, HO0.out, HB0.out⟩
  case round =>
    obtain ⟨k, hk1, hk, rfl, HO, HB⟩ := hrel
    clear HO0 HB0
    obtain ⟨wo, rfl⟩ : ∃ wo : World, wo = wr := ⟨_, rfl⟩
    have hzo := HB.out.size
    by_cases hlt : k ≤ a.length
    rotate_left
    · have hni : ¬ (k : Int) ≤ (a.length : Int) := by omega
      have HR := Lib.hid (show IRows wo w.heap.size wo.heap.size _ (tabO (a.length + 1) n (a.length + 1) f) by
        have := HO.out.rows; rw [show k = a.length + 1 by omega] at this; exact this)
      go_wp2
      go_ret
      exact ⟨_, rfl, HR.out, HB.out⟩
    have hk2 : (k : Int) ≤ (a.length : Int) := by omega
    obtain ⟨i', Hi'⟩ : ∃ i', Hid (k = i' + 1) := ⟨k - 1, by show k = k - 1 + 1; omega⟩
    obtain ⟨Ao, co, rfl, hco, hco2⟩ := HO.out.form
    have hol : (tabO k n k f).length ≤ 25 := by rw [tabO_len]; omega
    rw [tabO_len] at HO hco ⊢
    have HR0 := Lib.hid (show OwnI (wo.alloc (.cells #[.int .i64 (-1)] 3)) wo.heap.size 3 (.slice (some ⟨wo.heap.size, 0, none⟩) 1 1) ((List.range 1).map (f k)) by
      have := OwnI.one (w := wo) (base := wo.heap.size) (e := 3) (y := -1) (Nat.le_refl _) ⟨by omega, by omega⟩
      have e : (List.range 1).map (f k) = [-1] := by rw [HF.out, Hi'.out]; rfl
      rw [e]; exact this)
    have HT0 := Lib.hid (HO.out.kept (w' := wo.alloc (.cells #[.int .i64 (-1)] 3)) fun j _ hj => Below.heap_alloc wo _ j hj)
    have HB0 := Lib.hid (show Below wo.heap.size wo (wo.alloc (.cells #[.int .i64 (-1)] 3)) from (Below.refl _ _).alloc (Nat.le_refl _) _)
    go_wp2
    go_loopw [7, 8, 9, 10] (fun r j _ _ wr => ∃ q : Nat, 1 ≤ q ∧ q ≤ n ∧ j = .int .i64 q ∧ Hid (OwnR wr w.heap.size wo.heap.size 22 3 (.slice Ao k co) (tabO k n k f)) ∧ OwnI wr wo.heap.size 3 r ((List.range q).map (f k)) ∧ Hid (Below wo.heap.size wo wr)) (fun _ j _ _ _ => n - (intOf j).toNat)
    case atStart => exact ⟨1, Nat.le_refl _, hn0, rfl, HT0.out, HR0.out, HB0.out⟩
    case round =>
      obtain ⟨q, hq1, hqn, rfl, HT, hrow, HBo⟩ := hrel
      clear HR0 HT0 HB0
      have hfo := hrow.form
      obtain ⟨Ar, cr, rfl, hcr, _⟩ := hfo
      have hrl : ((List.range q).map (f k)).length = q := by simp
      rw [hrl] at hrow hcr ⊢
      have HR := Lib.hid hrow
      have hzr := HBo.out.size
      by_cases hq : q ≤ b.length
      rotate_left
      · clear hrl
        have hnq : ¬ (q : Int) ≤ (b.length : Int) := by omega
        have hqe : q = n := by have := HNE.out; omega
        have HRn := Lib.hid (show OwnI wr wo.heap.size 3 (.slice Ar q cr) ((List.range n).map (f k)) by rw [← hqe]; exact hrow)
        have HS := Lib.hid (tabO_snoc (n := n) (i := k) (f := f))
        clear hrow hqe
        go_wp2_with (at_builtin; refine wpList_appendR SlR (by decide) _ rfl (.tmp 77) (.tmp 79) rfl _ _ _ w.heap.size wo.heap.size _ _ ((List.range n).map (f k)) rfl rfl HT.out HRn.out (by omega) hzo hzr ?_; intro v2 w2 ho2 hg2; have HO2 := Lib.hid ho2; have HB2 := Lib.hid ((HB.out.trans (HBo.out.mono hzo)).trans hg2.below); clear ho2 hg2)
        go_roundw
        case rel => exact ⟨k + 1, by omega, by omega, by go_num, by rw [HS.out]; exact HO2.out, HB2.out⟩
        case measure => simp [intOf]; omega
      have hq2 : (q : Int) ≤ (b.length : Int) := by omega
      obtain ⟨j', Hj'⟩ : ∃ j', Hid (q = j' + 1) := ⟨q - 1, by show q = q - 1 + 1; omega⟩
      have hkk := Hi'.out
      have hqq := Hj'.out
      have HRL := Lib.hid (show ((List.range q).map (f k)).length ≤ 25 by rw [hrl]; omega)
      obtain ⟨b0, o0, c0, b2, o2, c2, hv0, _, _, ht1, hcn, hcn2, ht2⟩ := tab_at HT.out.rows (i := i') (j := j') (by omega) (by have := HNE.out; omega)
      simp only [Value.slice.injEq, true_and] at hv0
      obtain ⟨hAo, hco0⟩ := hv0
      subst hAo hco0
      obtain ⟨br, or_, hAr, _, _, er, _⟩ := HR.out.ints.cell (k := j') (by rw [hrl]; omega)
      subst hAr
      rw [gi_map_range (by omega)] at er
      obtain ⟨ba, oa, hAe, _, _, ea, _⟩ := ((HH.out.below HB.out hhi).below HBo.out (by omega)).cell (k := i') (by omega)
      obtain ⟨bb, ob, hBe, _, _, eb, _⟩ := ((HY.out.below HB.out hh2).below HBo.out (by omega)).cell (k := j') (by omega)
      subst hAe hBe
      have hxr := HRA.out i' (by omega)
      have hyr := HRB.out j' (by omega)
      have hpr := HRG.out i' j' (by omega) (by omega)
      have hbr := HRG.out k j' (by omega) (by omega)
      have hstp := mvT_step (a := a) (b := b) (i := i') (j := j')
      rw [← HF.out, ← hkk, ← hqq] at hstp
      obtain ⟨x, hx⟩ : ∃ x, x = gi a i' := ⟨_, rfl⟩
      obtain ⟨y, hy⟩ : ∃ y, y = gi b j' := ⟨_, rfl⟩
      obtain ⟨p, hp⟩ : ∃ p, p = f i' j' := ⟨_, rfl⟩
      obtain ⟨r, hr⟩ : ∃ r, r = f k j' := ⟨_, rfl⟩
      rw [← hx] at ea hxr hstp
      rw [← hy] at eb hyr hstp
      rw [← hp] at ht2 hpr hstp
      rw [← hr] at er hbr hstp
      have hwr := wayI_rng hxr hyr
      have hk1' : (k : Int) - 1 = (i' : Int) := by omega
      have hq1' : (q : Int) - 1 = (j' : Int) := by omega
      have gk : IntKind.i64.wrap (i' : Int) = (i' : Int) := IntWalk.i64_in _ (by omega)
      have gq : IntKind.i64.wrap (j' : Int) = (j' : Int) := IntWalk.i64_in _ (by omega)
      have a0 : (0 : Int) ≤ (i' : Int) := by omega
      have a1 : (i' : Int) < (k : Int) := by omega
      have a2 : (i' : Int) < (a.length : Int) := by omega
      have b0' : (0 : Int) ≤ (j' : Int) := by omega
      have b1' : (j' : Int) < (n : Int) := by have := HNE.out; omega
      have b2' : (j' : Int) < (b.length : Int) := by omega
      have b3' : (j' : Int) < (q : Int) := by omega
      obtain ⟨wy, hwy⟩ : ∃ wy, wy = wayI x y := ⟨_, rfl⟩
      rw [← hwy] at hwr hstp
      have gp : IntKind.i64.wrap (p + wy) = p + wy := IntWalk.i64_in _ (by omega)
      have HWY := Lib.hid hwy
      have HST := Lib.hid hstp
      clear hx hy hp hr hkk hqq hwy hstp hrow hrl
      by_cases hp0 : 0 ≤ p
      rotate_left
      · have hp1 : ¬ p ≥ 0 := hp0
        have HV := Lib.hid (show f k q = r by rw [HST.out, if_neg hp0])
        go_wp2_with (at_builtin; refine wpList_appendI SlI _ rfl (.tmp 73) (.tmp 75) rfl r wo.heap.size _ ((List.range q).map (f k)) rfl rfl HR.out ⟨by omega, by omega⟩ (by have := HRL.out; omega) hzr ?_; intro v2 w2 ho2 hg2; have HO2 := Lib.hid ho2; have HT2 := Lib.hid (HT.out.kept (w' := w2) (.of_below hg2.below (Nat.le_refl _))); have HB2 := Lib.hid (HBo.out.trans (hg2.below)); clear ho2 hg2)
        go_roundw
        case rel => exact ⟨q + 1, by omega, by have := HNE.out; omega, by go_num, HT2.out, by rw [row_snoc, HV.out]; exact HO2.out, HB2.out⟩
        case measure => simp [intOf]; have := HNE.out; omega
      have hp1 : p ≥ 0 := hp0
      go_wp2
      refine wp_region_held_drew (S := fun w' => w'.cell? ⟨b0, o0 + i', none⟩ = some (.slice (some ⟨b2, o2, none⟩) n c2) ∧ w'.cell? ⟨b2, o2 + j', none⟩ = some (.int .i64 p) ∧ w'.cell? ⟨ba, oa + i', none⟩ = some (.int .i64 x) ∧ w'.cell? ⟨bb, ob + j', none⟩ = some (.int .i64 y)) (by kernel_rfl) ?_ (fun hHeld => ?_)
      · (first | (try dsimp only); go_keep | (go_split_ands; refine ⟨?_, ?_, ?_, ?_⟩ <;> first | exact keepB bx5 (by assumption) | exact keepB bx4 (by assumption) | exact keepB bx3 (by assumption) | exact keepB bx2 (by assumption) | exact keepB bx1 (by assumption) | exact keepO bo5 (by first | (simp; done) | (simp; omega)) (by assumption) | exact keepO bo4 (by first | (simp; done) | (simp; omega)) (by assumption) | exact keepO bo3 (by first | (simp; done) | (simp; omega)) (by assumption) | exact keepO bo2 (by first | (simp; done) | (simp; omega)) (by assumption) | exact keepO bo1 (by first | (simp; done) | (simp; omega)) (by assumption) | exact keepW bg2 (by first | (simp; done) | (simp; omega)) (by assumption) | exact keepW bg1 (by first | (simp; done) | (simp; omega)) (by assumption) | assumption))
      refine wpAnyH_take (i := 0) (oi := ⟨some 44, _, _, _, _, _⟩) (v := _) rfl (by kernel_rfl) (by kernel_rfl) (by kernel_rfl) (fun _ _ _ h => h) (Or.inl ⟨by kernel_rfl, by intro w hSw; (try dsimp only at hSw); go_simp; try with_reducible rfl⟩) (by assumption) ?_
      simp only [Act.put, List.setIfInBounds_toArray, List.set_cons_zero, List.set_cons_succ]
      refine wpAnyH_take (i := 1) (oi := ⟨some 45, _, _, _, _, _⟩) (v := _) rfl (by kernel_rfl) (by kernel_rfl) (by kernel_rfl) (fun _ _ _ h => h) (Or.inl ⟨by kernel_rfl, by intro w hSw; (try dsimp only at hSw); go_simp; try with_reducible rfl⟩) (by assumption) ?_
      simp only [Act.put, List.setIfInBounds_toArray, List.set_cons_zero, List.set_cons_succ]
      refine wpAnyH_take (i := 2) (oi := ⟨some 46, _, _, _, _, _⟩) (v := _) rfl (by kernel_rfl) (by kernel_rfl) (by kernel_rfl) (fun _ _ _ h => h) (Or.inl ⟨by kernel_rfl, by intro w hSw; (try dsimp only at hSw); go_simp; try with_reducible rfl⟩) (by assumption) ?_
      simp only [Act.put, List.setIfInBounds_toArray, List.set_cons_zero, List.set_cons_succ]
      refine wpAnyH_take (i := 3) (oi := ⟨some 47, _, _, _, _, _⟩) (v := _) rfl (by kernel_rfl) (by kernel_rfl) (by kernel_rfl) (fun _ _ _ h => h) (Or.inl ⟨by kernel_rfl, by intro w hSw; (try dsimp only at hSw); go_simp; try with_reducible rfl⟩) (by assumption) ?_
      simp only [Act.put, List.setIfInBounds_toArray, List.set_cons_zero, List.set_cons_succ]
      refine wpAnyH_take (i := 4) (oi := ⟨some 48, _, _, _, _, _⟩) (v := _) rfl (by kernel_rfl) (by kernel_rfl) (by kernel_rfl) (fun _ _ _ h => h) (Or.inl ⟨by kernel_rfl, by intro w hSw; (try dsimp only at hSw); go_simp; try with_reducible rfl⟩) (by assumption) ?_
      simp only [Act.put, List.setIfInBounds_toArray, List.set_cons_zero, List.set_cons_succ]
      refine wpAnyH_take (i := 5) (oi := ⟨some 49, _, _, _, _, _⟩) (v := _) rfl (by kernel_rfl) (by kernel_rfl) (by kernel_rfl) (fun _ _ _ h => h) (Or.inl ⟨by kernel_rfl, by intro w hSw; (try dsimp only at hSw); go_simp; try with_reducible rfl⟩) (by assumption) ?_
      simp only [Act.put, List.setIfInBounds_toArray, List.set_cons_zero, List.set_cons_succ]
      refine wpAnyH_take (i := 6) (oi := ⟨some 50, _, _, _, _, _⟩) (v := _) rfl (by kernel_rfl) (by kernel_rfl) (by kernel_rfl) (fun _ _ _ h => h) (Or.inl ⟨by kernel_rfl, by intro w hSw; (try dsimp only at hSw); go_simp; try with_reducible rfl⟩) (by assumption) ?_
      simp only [Act.put, List.setIfInBounds_toArray, List.set_cons_zero, List.set_cons_succ]
      refine wpAnyH_take (i := 7) (oi := ⟨some 51, _, _, _, _, _⟩) (v := _) rfl (by kernel_rfl) (by kernel_rfl) (by kernel_rfl) (fun _ _ _ h => h) (Or.inl ⟨by kernel_rfl, by intro w hSw; (try dsimp only at hSw); go_simp; try with_reducible rfl⟩) (by assumption) ?_
      simp only [Act.put, List.setIfInBounds_toArray, List.set_cons_zero, List.set_cons_succ]
      refine wpAnyH_take (i := 8) (oi := ⟨some 52, _, _, _, _, _⟩) (v := _) rfl (by kernel_rfl) (by kernel_rfl) (by kernel_rfl) (fun _ _ _ h => h) (Or.inl ⟨by kernel_rfl, by intro w hSw; (try dsimp only at hSw); go_simp; try with_reducible rfl⟩) (by assumption) ?_
      simp only [Act.put, List.setIfInBounds_toArray, List.set_cons_zero, List.set_cons_succ]
      refine wpAnyH_take (i := 9) (oi := ⟨some 53, _, _, _, _, _⟩) (v := _) rfl (by kernel_rfl) (by kernel_rfl) (by kernel_rfl) (fun _ _ _ h => h) (Or.inl ⟨by kernel_rfl, by intro w hSw; (try dsimp only at hSw); go_simp; try with_reducible rfl⟩) (by assumption) ?_
      simp only [Act.put, List.setIfInBounds_toArray, List.set_cons_zero, List.set_cons_succ]
      refine wpAnyH_take (i := 10) (oi := ⟨some 54, _, _, _, _, _⟩) (v := _) rfl (by kernel_rfl) (by kernel_rfl) (by kernel_rfl) (fun _ _ _ h => h) (Or.inl ⟨by kernel_rfl, by intro w hSw; (try dsimp only at hSw); go_simp; try with_reducible rfl⟩) (by assumption) ?_
      simp only [Act.put, List.setIfInBounds_toArray, List.set_cons_zero, List.set_cons_succ]
      refine wpAnyH_take (i := 11) (oi := ⟨some 55, _, _, _, _, _⟩) (v := _) rfl (by kernel_rfl) (by kernel_rfl) (by kernel_rfl) (fun _ _ _ h => h) (Or.inl ⟨by kernel_rfl, by intro w hSw; (try dsimp only at hSw); go_simp; try with_reducible rfl⟩) (by assumption) ?_
      simp only [Act.put, List.setIfInBounds_toArray, List.set_cons_zero, List.set_cons_succ]
      refine wpAnyH_take (i := 12) (oi := ⟨some 56, _, _, _, _, _⟩) (v := _) rfl (by kernel_rfl) (by kernel_rfl) (by kernel_rfl) (fun _ _ _ h => h) (Or.inl ⟨by kernel_rfl, by intro w hSw; (try dsimp only at hSw); go_simp; try with_reducible rfl⟩) (by assumption) ?_
      simp only [Act.put, List.setIfInBounds_toArray, List.set_cons_zero, List.set_cons_succ]
      refine wpAnyH_take (i := 13) (oi := ⟨some 57, _, _, _, _, _⟩) (v := _) rfl (by kernel_rfl) (by kernel_rfl) (by kernel_rfl) (fun _ _ _ h => h) (Or.inl ⟨by kernel_rfl, by intro w hSw; (try dsimp only at hSw); go_simp; try with_reducible rfl⟩) (by assumption) ?_
      simp only [Act.put, List.setIfInBounds_toArray, List.set_cons_zero, List.set_cons_succ]
      refine wpAnyH_take (i := 14) (oi := ⟨some 58, _, _, _, _, _⟩) (v := _) rfl (by kernel_rfl) (by kernel_rfl) (by kernel_rfl) (fun _ _ _ h => h) (Or.inl ⟨by kernel_rfl, by intro w hSw; (try dsimp only at hSw); go_simp; try with_reducible rfl⟩) (by assumption) ?_
      simp only [Act.put, List.setIfInBounds_toArray, List.set_cons_zero, List.set_cons_succ]
      refine wpAnyH_take (i := 15) (oi := ⟨some 59, _, _, _, _, _⟩) (v := _) rfl (by kernel_rfl) (by kernel_rfl) (by kernel_rfl) (fun _ _ _ h => h) (Or.inl ⟨by kernel_rfl, by intro w hSw; (try dsimp only at hSw); go_simp; try with_reducible rfl⟩) (by assumption) ?_
      simp only [Act.put, List.setIfInBounds_toArray, List.set_cons_zero, List.set_cons_succ]
      refine wpAnyH_take (i := 16) (oi := ⟨some 60, _, _, _, _, _⟩) (v := _) rfl (by kernel_rfl) (by kernel_rfl) (by kernel_rfl) (fun _ _ _ h => h) (Or.inl ⟨by kernel_rfl, by intro w hSw; (try dsimp only at hSw); go_simp; try with_reducible rfl⟩) (by assumption) ?_
      simp only [Act.put, List.setIfInBounds_toArray, List.set_cons_zero, List.set_cons_succ]
      refine wpAnyH_take (i := 17) (oi := ⟨some 61, _, _, _, _, _⟩) (v := _) rfl (by kernel_rfl) (by kernel_rfl) (by kernel_rfl) (fun _ _ _ h => h) (Or.inl ⟨by kernel_rfl, by intro w hSw; (try dsimp only at hSw); go_simp; try with_reducible rfl⟩) (by assumption) ?_
      simp only [Act.put, List.setIfInBounds_toArray, List.set_cons_zero, List.set_cons_succ]
      refine wpAnyH_take (i := 18) (oi := ⟨some 62, _, _, _, _, _⟩) (v := _) rfl (by kernel_rfl) (by kernel_rfl) (by kernel_rfl) (fun _ _ _ h => h) (Or.inl ⟨by kernel_rfl, by intro w hSw; (try dsimp only at hSw); go_simp; try with_reducible rfl⟩) (by assumption) ?_
      simp only [Act.put, List.setIfInBounds_toArray, List.set_cons_zero, List.set_cons_succ]
      refine wpAnyH_ready (rs := [19]) (by kernel_rfl) (by simp) ?_
      refine AllReadyH.cons (o := ⟨some 63, _, _, _, _, _⟩) rfl (fun K hK => ?_) AllReadyH.nil
      go_simp
      go_at_call 131
      refine (far_any x y _ hxr hyr).mono ?_
      rw [← HWY.out]
      rintro e w9 ⟨rfl, rfl⟩
      go_wp2_with fail
      refine hK.out _ _ ?_ (fun hHeld2 => ?_)
      · (first | (try dsimp only); go_keep | (go_split_ands; refine ⟨?_, ?_, ?_, ?_⟩ <;> first | exact keepB bx5 (by assumption) | exact keepB bx4 (by assumption) | exact keepB bx3 (by assumption) | exact keepB bx2 (by assumption) | exact keepB bx1 (by assumption) | exact keepO bo5 (by first | (simp; done) | (simp; omega)) (by assumption) | exact keepO bo4 (by first | (simp; done) | (simp; omega)) (by assumption) | exact keepO bo3 (by first | (simp; done) | (simp; omega)) (by assumption) | exact keepO bo2 (by first | (simp; done) | (simp; omega)) (by assumption) | exact keepO bo1 (by first | (simp; done) | (simp; omega)) (by assumption) | exact keepW bg2 (by first | (simp; done) | (simp; omega)) (by assumption) | exact keepW bg1 (by first | (simp; done) | (simp; omega)) (by assumption) | assumption))
      clear hK K hHeld
      have hHeld := hHeld2
      clear hHeld2
      try simp only [Act.put, List.setIfInBounds_toArray, List.set_cons_zero, List.set_cons_succ]
      refine wpAnyH_take (i := 20) (oi := ⟨some 64, _, _, _, _, _⟩) (v := _) rfl (by kernel_rfl) (by kernel_rfl) (by kernel_rfl) (fun _ _ _ h => h) (Or.inl ⟨by kernel_rfl, by intro w hSw; (try dsimp only at hSw); go_simp; try with_reducible rfl⟩) (by assumption) ?_
      simp only [Act.put, List.setIfInBounds_toArray, List.set_cons_zero, List.set_cons_succ]
      refine wpAnyH_take (i := 21) (oi := ⟨some 10, _, _, _, _, _⟩) (v := _) rfl (by kernel_rfl) (by kernel_rfl) (by kernel_rfl) (fun _ _ _ h => h) (Or.inl ⟨by kernel_rfl, by intro w hSw; (try dsimp only at hSw); go_simp; try with_reducible rfl⟩) (by assumption) ?_
      simp only [Act.put, List.setIfInBounds_toArray, List.set_cons_zero, List.set_cons_succ]
      refine wpAnyH_done (by kernel_rfl) ?_ _
      clear hHeld
      obtain ⟨wd, hwd⟩ : ∃ wd, wd = wr.drew := ⟨_, rfl⟩
      have HTd := Lib.hid (show OwnR wd w.heap.size wo.heap.size 22 3 (.slice (some ⟨b0, o0, none⟩) k co) (tabO k n k f) by rw [hwd]; exact HT.out)
      have HRd := Lib.hid (show OwnI wd wo.heap.size 3 (.slice (some ⟨br, or_, none⟩) q cr) ((List.range q).map (f k)) by rw [hwd]; exact HR.out)
      have HBd := Lib.hid (show Below wo.heap.size wo wd by rw [hwd]; exact HBo.out.drew)
      have hzd : wo.heap.size ≤ wd.heap.size := HBd.out.size
      rw [← hwd]
      clear hwd HT HR HBo hzr ht1 ht2 er ea eb
      by_cases hr0 : r < 0
      · have HV := Lib.hid (show f k q = p + wy by rw [HST.out, if_pos hp0, if_pos (.inl hr0)])
        go_wp2_with (at_builtin; refine wpList_appendI SlI _ rfl (.tmp 73) (.tmp 75) rfl (p + wy) wo.heap.size _ ((List.range q).map (f k)) rfl rfl HRd.out ⟨by omega, by omega⟩ (by have := HRL.out; omega) hzd ?_; intro v2 w2 ho2 hg2; have HO2 := Lib.hid ho2; have HT2 := Lib.hid (HTd.out.kept (w' := w2) (.of_below hg2.below (Nat.le_refl _))); have HB2 := Lib.hid (HBd.out.trans (hg2.below)); clear ho2 hg2)
        go_roundw
        case rel => exact ⟨q + 1, by omega, by have := HNE.out; omega, by go_num, HT2.out, by rw [row_snoc, HV.out]; exact HO2.out, HB2.out⟩
        case measure => simp [intOf]; have := HNE.out; omega
      by_cases hn0' : p + wy < r
      · have HV := Lib.hid (show f k q = p + wy by rw [HST.out, if_pos hp0, if_pos (.inr hn0')])
        go_wp2_with (at_builtin; refine wpList_appendI SlI _ rfl (.tmp 73) (.tmp 75) rfl (p + wy) wo.heap.size _ ((List.range q).map (f k)) rfl rfl HRd.out ⟨by omega, by omega⟩ (by have := HRL.out; omega) hzd ?_; intro v2 w2 ho2 hg2; have HO2 := Lib.hid ho2; have HT2 := Lib.hid (HTd.out.kept (w' := w2) (.of_below hg2.below (Nat.le_refl _))); have HB2 := Lib.hid (HBd.out.trans (hg2.below)); clear ho2 hg2)
        go_roundw
        case rel => exact ⟨q + 1, by omega, by have := HNE.out; omega, by go_num, HT2.out, by rw [row_snoc, HV.out]; exact HO2.out, HB2.out⟩
        case measure => simp [intOf]; have := HNE.out; omega
      · have HV := Lib.hid (show f k q = r by rw [HST.out, if_pos hp0, if_neg (fun h => h.elim hr0 hn0')])
        go_wp2_with (at_builtin; refine wpList_appendI SlI _ rfl (.tmp 73) (.tmp 75) rfl r wo.heap.size _ ((List.range q).map (f k)) rfl rfl HRd.out ⟨by omega, by omega⟩ (by have := HRL.out; omega) hzd ?_; intro v2 w2 ho2 hg2; have HO2 := Lib.hid ho2; have HT2 := Lib.hid (HTd.out.kept (w' := w2) (.of_below hg2.below (Nat.le_refl _))); have HB2 := Lib.hid (HBd.out.trans (hg2.below)); clear ho2 hg2)
        go_roundw
        case rel => exact ⟨q + 1, by omega, by have := HNE.out; omega, by go_num, HT2.out, by rw [row_snoc, HV.out]; exact HO2.out, HB2.out⟩
        case measure => simp [intOf]; have := HNE.out; omega
end Go.Proofs.Yteckjiaaikdghaa
