/-
  Lemmas and contracts of single functions of this program, used by the proofs of its laws: what each call returns and what becomes of memory. Conditions: the hypotheses of each theorem.
-/
import Derived.Test.YteckjiaaikdghaaKniR
import Derived.Test.YteckjiaaikdghaaGroR
namespace Go.Proofs.Yteckjiaaikdghaa
open Go.RowKit
attribute [local go_sem ↓] Go.wp_at_zero Go.wp_at_succ

/-- one row of an owned table: its cells, and a store into one of them -/
theorem OwnR.rowCells {w : World} {base s tS tI n c g : Nat} {xss : List (List Int)} (h : OwnR w base s tS tI (.slice (some ⟨g, 0, none⟩) n c) xss) (hne : tS ≠ tI) {r : Nat} (hr : r < xss.length) (h0 : 0 < (gr xss r).length) :
    ∃ q ci, base ≤ g ∧ g < s ∧ base ≤ q ∧ q < s ∧ q ≠ g ∧ w.cell? ⟨g, r, none⟩ = some (.slice (some ⟨q, 0, none⟩) (gr xss r).length ci) ∧ (gr xss r).length ≤ ci ∧ ci ≤ 2 ^ 63 - 1 ∧
      ∀ i, i < (gr xss r).length → w.cell? ⟨q, i, none⟩ = some (.int .i64 (gi (gr xss r) i)) ∧ w.frozen? ⟨q, i, none⟩ = false ∧ ∀ x, I64 x → OwnR (w.setCell ⟨q, i, none⟩ (.int .i64 x)) base s tS tI (.slice (some ⟨g, 0, none⟩) n c) (set2 xss r i x) := by
  obtain ⟨g', q, ci, e, a1, a2, a3, a4, a5, a6, a7, a8, _, _, _⟩ := h.at_ hne hr h0
  simp only [Option.some.injEq, Addr.mk.injEq, and_true] at e
  subst e
  refine ⟨q, ci, a1, a2, a6, a7, a8, a3, a4, a5, fun i hi => ?_⟩
  obtain ⟨g2, q2, c2, e2, b1, b2, b3, b4, b5, b6, b7, b8, b9, b10, b11⟩ := h.at_ hne hr hi
  simp only [Option.some.injEq, Addr.mk.injEq, and_true] at e2
  subst e2
  rw [a3] at b3
  simp only [Option.some.injEq, Value.slice.injEq, Addr.mk.injEq, and_true, true_and] at b3
  obtain ⟨rfl, _⟩ := b3
  exact ⟨b9, b10, b11⟩
theorem giK_set_eq {ys : List Int} {r : Nat} (h : r < ys.length) (y : Int) : gi (ys.set r y) r = y := by simp [gi, h]
theorem giK_set_ne {ys : List Int} {r i : Nat} (h : r ≠ i) (y : Int) : gi (ys.set r y) i = gi ys i := by simp [gi, List.getD, List.getElem?_set_ne h]
theorem lwT_far {a b : List Int} {k j : Nat} (h : j < k) : lwT a b k j = 1441 := by
  cases k with
  | zero => omega
  | succ i =>
    cases j with
    | zero => rfl
    | succ j =>
      show (if i ≤ j then _ else (1441 : Int)) = 1441
      rw [if_neg (by omega)]
theorem lwT_step {a b : List Int} {i j : Nat} (h : i ≤ j) : lwT a b (i + 1) (j + 1) = min (lwT a b (i + 1) j) (lwT a b i j + wayI (gi a i) (gi b j)) := by
  show (if i ≤ j then _ else (1441 : Int)) = _
  rw [if_pos h]; rfl
theorem lwT_rng {a b : List Int} (ha : vKn a = true) (hb : vKn b = true) {i j : Nat} (hi : i ≤ a.length) (hj : j ≤ b.length) : 0 ≤ lwT a b i j ∧ lwT a b i j ≤ 1441 := by
  have h1 := vKn_iff.1 ha
  have h2 := vKn_iff.1 hb
  have h := lw_mv h1.2.1 h2.2.1 h1.1 i hi j hj
  rcases Nat.lt_or_ge j i with hlt | hge
  · have := (h.2 hlt).1; omega
  · have := h.1 hge; omega
theorem tabP_zero {m n j : Nat} {f : Nat → Nat → Int} (hf : ∀ c, f 0 c = 0) : tabP m n 0 (j + 1) f = tabP m n 0 j f := by
  unfold tabP
  apply List.map_congr_left
  intro i _
  rw [if_neg (Nat.not_lt_zero i), if_neg (Nat.not_lt_zero i)]
  by_cases h : i = 0
  · subst h
    rw [if_pos rfl, if_pos rfl]
    apply List.map_congr_left
    intro c _
    rw [hf]; split <;> split <;> rfl
  · rw [if_neg h, if_neg h]
theorem wayBetween_any (x y : Int) (w : World) (hx : 0 ≤ x ∧ x ≤ 60) (hy : 0 ≤ y ∧ y ≤ 60) : Calls Try.prog 124 #[.int .i64 x, .int .i64 y] w fun e w' => e = .returned (.int .i64 (wayI x y)) ∧ w = w' := by
  have HW := Lib.hid (show wayI x y = max (x - y) (y - x) from rfl)
  have g1 : wrap64 (x - y) = x - y := w64 (by omega)
  have g2 : wrap64 (y - x) = y - x := w64 (by omega)
  go_enter Try.func124, Try.ntmps124
  go_wp2
  go_ret
  exact ⟨ret_int HW.out.symm, rfl⟩
theorem far_any (x y : Int) (w : World) (hx : 0 ≤ x ∧ x ≤ 60) (hy : 0 ≤ y ∧ y ≤ 60) : Calls Try.prog 131 #[.int .i64 x, .int .i64 y] w fun e w' => e = .returned (.int .i64 (wayI x y)) ∧ w = w' := by
  have HW := Lib.hid (show wayI x y = max (x - y) (y - x) from rfl)
  have g1 : wrap64 (x - y) = x - y := w64 (by omega)
  have g2 : wrap64 (y - x) = y - x := w64 (by omega)
  go_enter Try.func131, Try.ntmps131
  go_wp2
  go_ret
  exact ⟨ret_int HW.out.symm, rfl⟩
set_option maxRecDepth 100000 in
set_option maxHeartbeats 4000000 in
theorem leastWays_any (lo hi l2 h2 : Nat) (v u : Value) (a b : List Int) (w : World) (h : Ints w lo hi v a) (hhi : hi ≤ w.heap.size) (hy : Ints w l2 h2 u b) (hh2 : h2 ≤ w.heap.size) (ha : vKn a = true) (hb : vKn b = true) :
    Calls Try.prog 105 #[v, u] w fun e w' => ∃ v', e = .returned v' ∧ IRows w' w.heap.size w'.heap.size v' (tabO (a.length + 1) (b.length + 1) (a.length + 1) (lwT a b)) ∧ Below w.heap.size w w' := by
  obtain ⟨A, c, rfl, hc, hm⟩ := h.form
  obtain ⟨B, d, rfl, hd, hm2⟩ := hy.form
  have hva := vKn_iff.1 ha
  have hvb := vKn_iff.1 hb
  have hal := hva.1
  have hbl := hvb.1
  have HRA := Lib.hid hva.2.1
  have HRB := Lib.hid hvb.2.1
  have HRG := Lib.hid (fun i j hi hj => lwT_rng ha hb (i := i) (j := j) hi hj)
  obtain ⟨m, hmE⟩ : ∃ m, m = a.length + 1 := ⟨_, rfl⟩
  obtain ⟨n, hnE⟩ : ∃ n, n = b.length + 1 := ⟨_, rfl⟩
  rw [← hmE, ← hnE]
  have hma : (a.length : Int) + 1 = (m : Int) := by omega
  have hnb : (b.length : Int) + 1 = (n : Int) := by omega
  have HME := Lib.hid hmE
  have HNE := Lib.hid hnE
  have hm25 : m ≤ 25 := by omega
  have hn25 : n ≤ 25 := by omega
  have hn0 : 1 ≤ n := by omega
  obtain ⟨f, hf⟩ : ∃ f, f = lwT a b := ⟨_, rfl⟩
  rw [← hf] at HRG ⊢
  have HF := Lib.hid hf
  have HH := Lib.hid h
  have HY := Lib.hid hy
  clear hva hvb ha hb hmE hnE hf h hy
  go_enter Try.func105, Try.ntmps105
  go_wp2_with (at_make; refine wpList_makeR (tI := 3) SlR _ rfl _ _ rfl w.heap.size m rfl rfl (by omega) (Nat.le_refl _) ?_; intro w1 ho hb1 hs1)
  have HO0 := Lib.hid (show OwnR w1 w.heap.size w1.heap.size 22 3 (.slice (some ⟨w.heap.size, 0, none⟩) m m) (tabO m n 0 f) by
    have e : tabO m n 0 f = List.replicate m [] := by
      unfold tabO
      apply List.ext_getElem
      · simp
      · intro i h1 h2; simp
    rw [e]; exact ho)
  have HB0 := Lib.hid hb1
  clear ho hb1 hs1
  go_loopw [6, 7, 8, 15] (fun _ _ _ i wr => ∃ k : Nat, k ≤ m ∧ i = .int .i64 k ∧ Hid (OwnR wr w.heap.size wr.heap.size 22 3 (.slice (some ⟨w.heap.size, 0, none⟩) m m) (tabO m n k f)) ∧ Hid (Below w.heap.size w wr)) (fun _ _ _ i _ => m - (intOf i).toNat)
  case atStart => exact ⟨0, Nat.zero_le _, rfl, HO0.out, HB0.out⟩
  case round =>
    obtain ⟨k, hk, rfl, HO, HB⟩ := hrel
    clear HO0 HB0
    obtain ⟨wo, rfl⟩ : ∃ wo : World, wo = wr := ⟨_, rfl⟩
    have hzo := HB.out.size
    by_cases hlt : k < m
    rotate_left
    · have hni : ¬ (k : Int) < (m : Int) := by omega
      have hke : k = m := by omega
      have HR := Lib.hid (show IRows wo w.heap.size wo.heap.size (.slice (some ⟨w.heap.size, 0, none⟩) m m) (tabO m n m f) by
        have := HO.out.rows; rw [hke] at this; exact this)
      clear hke
      go_wp2
      go_ret
      exact ⟨_, rfl, HR.out, HB.out⟩
    have hk1 : (k : Int) < (m : Int) := by omega
    have hk0 : (0 : Int) ≤ (k : Int) := by omega
    go_wp2_with (at_make; refine wpList_makeI SlI _ rfl _ _ rfl wo.heap.size n rfl rfl (by omega) (Nat.le_refl _) ?_; intro w5 ho5 hb5 hs5; have HT5 := Lib.hid (HO.out.kept (.of_below hb5 (Nat.le_refl _))); obtain ⟨g5, hg5, hgl5, hgs5, hxc, hfc, hput⟩ := HT5.out.putRow (s' := w5.heap.size) (by decide) ho5 hzo (Nat.le_of_lt hs5) (Nat.le_refl _) (k := k) (by rw [tabO_len]; exact hlt); simp only [Option.some.injEq, Addr.mk.injEq, and_true] at hg5; subst hg5; obtain ⟨xc, hxc⟩ := hxc; rw [tabO_put hlt] at hput; have hgs : w.heap.size < w5.heap.size := (by omega); have HP := Lib.hid hput; have HB5 := Lib.hid (HB.out.trans (hb5.mono hzo)); have hrow := (IRows.row' hput.rows (r := k) (by rw [tabP_len]; exact hlt)); rw [tabP_cur hlt] at hrow; simp only [List.length_map, List.length_range, Nat.zero_add] at hrow; obtain ⟨Ar, cr, hrc, hcr, hcr2, _⟩ := hrow; clear ho5 hb5 hput)
    obtain ⟨w6, hw6⟩ : ∃ w6, w6 = w5.setCell ⟨w.heap.size, k, none⟩ (.slice (some ⟨wo.heap.size, 0, none⟩) n n) := ⟨_, rfl⟩
    have hz6 : w6.heap.size = w5.heap.size := by rw [hw6]; simp [World.setCell]
    have HO6 := Lib.hid (show OwnR w6 w.heap.size w6.heap.size 22 3 (.slice (some ⟨w.heap.size, 0, none⟩) m m) (tabP m n k 0 f) by rw [hz6, hw6]; exact HP.out)
    have HB6 := Lib.hid (show Below w.heap.size w w6 by rw [hw6]; exact HB5.out.setCell (p := ⟨w.heap.size, k, none⟩) (Nat.le_refl _) _)
    rw [← hw6] at hrc ⊢
    clear hw6 hz6 HP HB5 hxc hfc HT5
    go_loopw [7, 8, 30] (fun _ _ j wr => ∃ j' : Nat, j' ≤ n ∧ j = .int .i64 j' ∧ Hid (OwnR wr w.heap.size wr.heap.size 22 3 (.slice (some ⟨w.heap.size, 0, none⟩) m m) (tabP m n k j' f)) ∧ Hid (Below w.heap.size w wr)) (fun _ _ j _ => n - (intOf j).toNat)
    case atStart => exact ⟨0, Nat.zero_le _, rfl, HO6.out, HB6.out⟩
    case round =>
      obtain ⟨j, hj, rfl, HO, HB⟩ := hrel
      clear HO6 HB6 hrc
      by_cases hjn : j < n
      rotate_left
      · have hnj : ¬ (j : Int) < (n : Int) := by omega
        have HE := Lib.hid (show tabP m n k j f = tabO m n (k + 1) f by rw [show j = n by omega]; exact tabP_end)
        go_wp2
        go_roundw
        case rel => exact ⟨k + 1, hlt, by go_num, by rw [← HE.out]; exact HO.out, HB.out⟩
        case measure => simp [intOf]; omega
      have hj1 : (j : Int) < (n : Int) := by omega
      have hj0 : (0 : Int) ≤ (j : Int) := by omega
      by_cases hkz : k = 0
      · have hkb : ((k : Int) == 0) = true := beq_t (by omega)
        have HE := Lib.hid (show tabP m n k (j + 1) f = tabP m n k j f by rw [hkz]; exact tabP_zero fun c => by rw [HF.out]; rfl)
        clear hkz
        go_wp2
        go_roundw
        case rel => exact ⟨j + 1, hjn, by go_num, by rw [HE.out]; exact HO.out, HB.out⟩
        case measure => simp [intOf]; omega
      have hkb : ((k : Int) == 0) = false := beq_f (by omega)
      obtain ⟨T, hT⟩ : ∃ T, T = tabP m n k j f := ⟨_, rfl⟩
      have hTl : T.length = m := by rw [hT, tabP_len]
      have hTk : (gr T k).length = n := by rw [hT, tabP_cur hlt]; simp
      rw [← hT] at HO
      have HT := Lib.hid hT
      obtain ⟨q, ci, hq1, hq2, hq3, hq4, hqg, hrc, hci, hci2, hcells⟩ := HO.out.rowCells (r := k) (by decide) (by rw [hTl]; exact hlt) (by rw [hTk]; omega)
      obtain ⟨ej, fj, hst⟩ := hcells j (by rw [hTk]; exact hjn)
      rw [hTk] at hrc hci
      have HST := Lib.hid (hst 1441 ⟨by omega, by omega⟩)
      have HTL := Lib.hid hTl
      have HTK := Lib.hid hTk
      clear hcells hst hT hTl hTk
      by_cases hjk : j < k
      · have hge : ¬ (j : Int) ≥ (k : Int) := by omega
        have hge2 : ¬ (k : Int) ≤ (j : Int) := by omega
        have HE := Lib.hid (show set2 T k j 1441 = tabP m n k (j + 1) f by
          have := tabP_set (f := f) hlt hjn
          rw [show f k j = 1441 by rw [HF.out]; exact lwT_far hjk] at this
          rw [HT.out]; exact this)
        have HX := Lib.hid (show OwnR (wr.setCell ⟨q, j, none⟩ (.int .i64 1441)) w.heap.size (wr.setCell ⟨q, j, none⟩ (.int .i64 1441)).heap.size 22 3 (.slice (some ⟨w.heap.size, 0, none⟩) m m) (tabP m n k (j + 1) f) by
          rw [show (wr.setCell ⟨q, j, none⟩ (.int .i64 1441)).heap.size = wr.heap.size by simp [World.setCell], ← HE.out]; exact HST.out)
        go_wp2
        go_roundw
        case rel => exact ⟨j + 1, hjn, by go_num, HX.out, HB.out.setCell (p := ⟨q, j, none⟩) hq3 _⟩
        case measure => simp [intOf]; omega
      have hge : (j : Int) ≥ (k : Int) := by omega
      have hge2 : (k : Int) ≤ (j : Int) := by omega
      obtain ⟨i', Hi'⟩ : ∃ i', Hid (k = i' + 1) := ⟨k - 1, by show k = k - 1 + 1; omega⟩
      obtain ⟨j', Hj'⟩ : ∃ j', Hid (j = j' + 1) := ⟨j - 1, by show j = j - 1 + 1; omega⟩
      go_wp2
      have hi' := Hi'.out
      have hj' := Hj'.out
      obtain ⟨w7, hw7⟩ : ∃ w7, w7 = wr.setCell ⟨q, j, none⟩ (.int .i64 1441) := ⟨_, rfl⟩
      have hz7 : w7.heap.size = wr.heap.size := by rw [hw7]; simp [World.setCell]
      have HO7 := Lib.hid (show OwnR w7 w.heap.size w7.heap.size 22 3 (.slice (some ⟨w.heap.size, 0, none⟩) m m) (set2 T k j 1441) by rw [hz7, hw7]; exact HST.out)
      have HB7 := Lib.hid (show Below w.heap.size w w7 by rw [hw7]; exact HB.out.setCell (p := ⟨q, j, none⟩) hq3 _)
      rw [← hw7]
      clear hw7 hz7 HST HB HO ej fj hrc
      have hgk : gr (set2 T k j 1441) k = (gr T k).set j 1441 := gr_set2_eq (by rw [HTL.out]; exact hlt)
      have hgi : gr (set2 T k j 1441) i' = (List.range n).map (f i') := by rw [gr_set2_ne (by omega), HT.out, tabP_row (by omega) (by omega)]
      obtain ⟨q2, c2, hs1, hs2, hs3, hs4, hsg, hsc, hsl, hsl2, hscells⟩ := HO7.out.rowCells (r := k) (by decide) (by rw [set2_len, HTL.out]; exact hlt) (by rw [hgk, List.length_set, HTK.out]; omega)
      obtain ⟨e1, f1, hst1⟩ := hscells j (by rw [hgk, List.length_set, HTK.out]; exact hjn)
      obtain ⟨e2, _, _⟩ := hscells j' (by rw [hgk, List.length_set, HTK.out]; omega)
      obtain ⟨q3, c3, hp1, hp2, hp3, hp4, hpg, hpc, hpl, hpl2, hpcells⟩ := HO7.out.rowCells (r := i') (by decide) (by rw [set2_len, HTL.out]; omega) (by rw [hgi]; simp; omega)
      obtain ⟨e3, _, _⟩ := hpcells j' (by rw [hgi]; simp; omega)
      rw [hgk, giK_set_eq (by rw [HTK.out]; exact hjn)] at e1
      rw [hgk, giK_set_ne (by omega), HT.out, tabP_cur hlt, gi_map_range (by omega), if_pos (by omega)] at e2
      rw [hgi, gi_map_range (by omega)] at e3
      rw [hgk, List.length_set, HTK.out] at hsc hsl
      rw [hgi, List.length_map, List.length_range] at hpc hpl
      obtain ⟨ba, oa, hAe, _, _, ea, _⟩ := (HH.out.below HB7.out hhi).cell (k := i') (by have := HME.out; omega)
      obtain ⟨bb, ob, hBe, _, _, eb, _⟩ := (HY.out.below HB7.out hh2).cell (k := j') (by have := HNE.out; omega)
      subst hAe hBe
      have hxr := HRA.out i' (by have := HME.out; omega)
      have hyr := HRB.out j' (by have := HNE.out; omega)
      have hpr := HRG.out i' j' (by have := HME.out; omega) (by have := HNE.out; omega)
      have hrr := HRG.out k j' (by have := HME.out; omega) (by have := HNE.out; omega)
      have hfz := lwT_step (a := a) (b := b) (i := i') (j := j') (by omega)
      rw [← HF.out, ← hi', ← hj'] at hfz
      obtain ⟨x, hx⟩ : ∃ x, x = gi a i' := ⟨_, rfl⟩
      obtain ⟨y, hy⟩ : ∃ y, y = gi b j' := ⟨_, rfl⟩
      obtain ⟨p, hp⟩ : ∃ p, p = f i' j' := ⟨_, rfl⟩
      obtain ⟨r, hr⟩ : ∃ r, r = f k j' := ⟨_, rfl⟩
      rw [← hx] at ea hxr hfz
      rw [← hy] at eb hyr hfz
      rw [← hp] at e3 hpr hfz
      rw [← hr] at e2 hrr hfz
      have hwr := wayI_rng hxr hyr
      have hk1' : (k : Int) - 1 = (i' : Int) := by omega
      have hj1' : (j : Int) - 1 = (j' : Int) := by omega
      have gk : IntKind.i64.wrap (i' : Int) = (i' : Int) := IntWalk.i64_in _ (by omega)
      have gj : IntKind.i64.wrap (j' : Int) = (j' : Int) := IntWalk.i64_in _ (by omega)
      have a0 : (0 : Int) ≤ (i' : Int) := by omega
      have a1 : (i' : Int) < (m : Int) := by omega
      have a2 : (i' : Int) < (a.length : Int) := by have := HME.out; omega
      have b0 : (0 : Int) ≤ (j' : Int) := by omega
      have b1 : (j' : Int) < (n : Int) := by omega
      have b2 : (j' : Int) < (b.length : Int) := by have := HNE.out; omega
      obtain ⟨wy, hwy⟩ : ∃ wy, wy = wayI x y := ⟨_, rfl⟩
      rw [← hwy] at hwr hfz
      have gp : IntKind.i64.wrap (p + wy) = p + wy := IntWalk.i64_in _ (by omega)
      have HZ := Lib.hid (show OwnR (w7.setCell ⟨q2, j, none⟩ (.int .i64 (min r (p + wy)))) w.heap.size w7.heap.size 22 3 (.slice (some ⟨w.heap.size, 0, none⟩) m m) (tabP m n k (j + 1) f) by
        have h9 := hst1 (min r (p + wy)) ⟨by omega, by omega⟩
        rw [set2_set2 _ _ _ _ _ (by rw [HTL.out]; exact hlt), ← hfz] at h9
        have h8 := tabP_set (f := f) hlt hjn
        rw [HT.out, h8] at h9
        rw [← hfz]; exact h9)
      have HWY := Lib.hid hwy
      clear hst1 hscells hpcells hgk hgi hx hy hp hr hfz hi' hj' hwy
      refine wp_region_held_drew (S := fun w' => w'.cell? ⟨w.heap.size, i', none⟩ = some (.slice (some ⟨q3, 0, none⟩) n c3) ∧ w'.cell? ⟨q3, j', none⟩ = some (.int .i64 p) ∧ w'.cell? ⟨ba, oa + i', none⟩ = some (.int .i64 x) ∧ w'.cell? ⟨bb, ob + j', none⟩ = some (.int .i64 y)) (by kernel_rfl) ?_ (fun hHeld => ?_)
      · (first | (try dsimp only); go_keep | (go_split_ands; refine ⟨?_, ?_, ?_, ?_⟩ <;> first | exact keepB bx5 (by assumption) | exact keepB bx4 (by assumption) | exact keepB bx3 (by assumption) | exact keepB bx2 (by assumption) | exact keepB bx1 (by assumption) | exact keepO bo5 (by first | (simp; done) | (simp; omega)) (by assumption) | exact keepO bo4 (by first | (simp; done) | (simp; omega)) (by assumption) | exact keepO bo3 (by first | (simp; done) | (simp; omega)) (by assumption) | exact keepO bo2 (by first | (simp; done) | (simp; omega)) (by assumption) | exact keepO bo1 (by first | (simp; done) | (simp; omega)) (by assumption) | exact keepW bg2 (by first | (simp; done) | (simp; omega)) (by assumption) | exact keepW bg1 (by first | (simp; done) | (simp; omega)) (by assumption) | assumption))
      refine wpAnyH_take (i := 0) (oi := ⟨some 44, _, _, _, _, _⟩) (v := _) rfl (by kernel_rfl) (by kernel_rfl) (by kernel_rfl) (fun _ _ _ h => h) (Or.inl ⟨by kernel_rfl, by intro w hSw; (try dsimp only at hSw); go_simp; try with_reducible rfl⟩) (by assumption) ?_
      simp only [Act.put, List.setIfInBounds_toArray, List.set_cons_zero, List.set_cons_succ]
      refine wpAnyH_take (i := 1) (oi := ⟨some 45, _, _, _, _, _⟩) (v := _) rfl (by kernel_rfl) (by kernel_rfl) (by kernel_rfl) (fun _ _ _ h => h) (Or.inl ⟨by kernel_rfl, by intro w hSw; (try dsimp only at hSw); go_simp; try with_reducible rfl⟩) (by assumption) ?_
      simp only [Act.put, List.setIfInBounds_toArray, List.set_cons_zero, List.set_cons_succ]
      refine wpAnyH_take (i := 2) (oi := ⟨some 46, _, _, _, _, _⟩) (v := _) rfl (by kernel_rfl) (by kernel_rfl) (by kernel_rfl) (fun _ _ _ h => h) (Or.inl ⟨by kernel_rfl, by intro w hSw; (try dsimp only at hSw); go_simp; try with_reducible rfl⟩) (by assumption) ?_
      simp only [Act.put, List.setIfInBounds_toArray, List.set_cons_zero, List.set_cons_succ]
      refine wpAnyH_take (i := 3) (oi := ⟨some 47, _, _, _, _, _⟩) (v := _) rfl (by kernel_rfl) (by kernel_rfl) (by kernel_rfl) (fun _ _ _ h => h) (Or.inl ⟨by kernel_rfl, by intro w hSw; (try dsimp only at hSw); go_simp; try with_reducible rfl⟩) (by assumption) ?_
      simp only [Act.put, List.setIfInBounds_toArray, List.set_cons_zero, List.set_cons_succ]
      refine wpAnyH_take (i := 4) (oi := ⟨some 48, _, _, _, _, _⟩) (v := _) rfl (by kernel_rfl) (by kernel_rfl) (by kernel_rfl) (fun _ _ _ h => h) (Or.inl ⟨by kernel_rfl, by intro w hSw; (try dsimp only at hSw); go_simp; try with_reducible rfl⟩) (by assumption) ?_
      simp only [Act.put, List.setIfInBounds_toArray, List.set_cons_zero, List.set_cons_succ]
      refine wpAnyH_take (i := 5) (oi := ⟨some 49, _, _, _, _, _⟩) (v := _) rfl (by kernel_rfl) (by kernel_rfl) (by kernel_rfl) (fun _ _ _ h => h) (Or.inl ⟨by kernel_rfl, by intro w hSw; (try dsimp only at hSw); go_simp; try with_reducible rfl⟩) (by assumption) ?_
      simp only [Act.put, List.setIfInBounds_toArray, List.set_cons_zero, List.set_cons_succ]
      refine wpAnyH_take (i := 6) (oi := ⟨some 50, _, _, _, _, _⟩) (v := _) rfl (by kernel_rfl) (by kernel_rfl) (by kernel_rfl) (fun _ _ _ h => h) (Or.inl ⟨by kernel_rfl, by intro w hSw; (try dsimp only at hSw); go_simp; try with_reducible rfl⟩) (by assumption) ?_
      simp only [Act.put, List.setIfInBounds_toArray, List.set_cons_zero, List.set_cons_succ]
      refine wpAnyH_take (i := 7) (oi := ⟨some 51, _, _, _, _, _⟩) (v := _) rfl (by kernel_rfl) (by kernel_rfl) (by kernel_rfl) (fun _ _ _ h => h) (Or.inl ⟨by kernel_rfl, by intro w hSw; (try dsimp only at hSw); go_simp; try with_reducible rfl⟩) (by assumption) ?_
      simp only [Act.put, List.setIfInBounds_toArray, List.set_cons_zero, List.set_cons_succ]
      refine wpAnyH_take (i := 8) (oi := ⟨some 52, _, _, _, _, _⟩) (v := _) rfl (by kernel_rfl) (by kernel_rfl) (by kernel_rfl) (fun _ _ _ h => h) (Or.inl ⟨by kernel_rfl, by intro w hSw; (try dsimp only at hSw); go_simp; try with_reducible rfl⟩) (by assumption) ?_
      simp only [Act.put, List.setIfInBounds_toArray, List.set_cons_zero, List.set_cons_succ]
      refine wpAnyH_take (i := 9) (oi := ⟨some 53, _, _, _, _, _⟩) (v := _) rfl (by kernel_rfl) (by kernel_rfl) (by kernel_rfl) (fun _ _ _ h => h) (Or.inl ⟨by kernel_rfl, by intro w hSw; (try dsimp only at hSw); go_simp; try with_reducible rfl⟩) (by assumption) ?_
      simp only [Act.put, List.setIfInBounds_toArray, List.set_cons_zero, List.set_cons_succ]
      refine wpAnyH_take (i := 10) (oi := ⟨some 54, _, _, _, _, _⟩) (v := _) rfl (by kernel_rfl) (by kernel_rfl) (by kernel_rfl) (fun _ _ _ h => h) (Or.inl ⟨by kernel_rfl, by intro w hSw; (try dsimp only at hSw); go_simp; try with_reducible rfl⟩) (by assumption) ?_
      simp only [Act.put, List.setIfInBounds_toArray, List.set_cons_zero, List.set_cons_succ]
      refine wpAnyH_take (i := 11) (oi := ⟨some 55, _, _, _, _, _⟩) (v := _) rfl (by kernel_rfl) (by kernel_rfl) (by kernel_rfl) (fun _ _ _ h => h) (Or.inl ⟨by kernel_rfl, by intro w hSw; (try dsimp only at hSw); go_simp; try with_reducible rfl⟩) (by assumption) ?_
      simp only [Act.put, List.setIfInBounds_toArray, List.set_cons_zero, List.set_cons_succ]
      refine wpAnyH_take (i := 12) (oi := ⟨some 56, _, _, _, _, _⟩) (v := _) rfl (by kernel_rfl) (by kernel_rfl) (by kernel_rfl) (fun _ _ _ h => h) (Or.inl ⟨by kernel_rfl, by intro w hSw; (try dsimp only at hSw); go_simp; try with_reducible rfl⟩) (by assumption) ?_
      simp only [Act.put, List.setIfInBounds_toArray, List.set_cons_zero, List.set_cons_succ]
      refine wpAnyH_take (i := 13) (oi := ⟨some 57, _, _, _, _, _⟩) (v := _) rfl (by kernel_rfl) (by kernel_rfl) (by kernel_rfl) (fun _ _ _ h => h) (Or.inl ⟨by kernel_rfl, by intro w hSw; (try dsimp only at hSw); go_simp; try with_reducible rfl⟩) (by assumption) ?_
      simp only [Act.put, List.setIfInBounds_toArray, List.set_cons_zero, List.set_cons_succ]
      refine wpAnyH_take (i := 14) (oi := ⟨some 58, _, _, _, _, _⟩) (v := _) rfl (by kernel_rfl) (by kernel_rfl) (by kernel_rfl) (fun _ _ _ h => h) (Or.inl ⟨by kernel_rfl, by intro w hSw; (try dsimp only at hSw); go_simp; try with_reducible rfl⟩) (by assumption) ?_
      simp only [Act.put, List.setIfInBounds_toArray, List.set_cons_zero, List.set_cons_succ]
      refine wpAnyH_take (i := 15) (oi := ⟨some 59, _, _, _, _, _⟩) (v := _) rfl (by kernel_rfl) (by kernel_rfl) (by kernel_rfl) (fun _ _ _ h => h) (Or.inl ⟨by kernel_rfl, by intro w hSw; (try dsimp only at hSw); go_simp; try with_reducible rfl⟩) (by assumption) ?_
      simp only [Act.put, List.setIfInBounds_toArray, List.set_cons_zero, List.set_cons_succ]
      refine wpAnyH_take (i := 16) (oi := ⟨some 60, _, _, _, _, _⟩) (v := _) rfl (by kernel_rfl) (by kernel_rfl) (by kernel_rfl) (fun _ _ _ h => h) (Or.inl ⟨by kernel_rfl, by intro w hSw; (try dsimp only at hSw); go_simp; try with_reducible rfl⟩) (by assumption) ?_
      simp only [Act.put, List.setIfInBounds_toArray, List.set_cons_zero, List.set_cons_succ]
      refine wpAnyH_take (i := 17) (oi := ⟨some 61, _, _, _, _, _⟩) (v := _) rfl (by kernel_rfl) (by kernel_rfl) (by kernel_rfl) (fun _ _ _ h => h) (Or.inl ⟨by kernel_rfl, by intro w hSw; (try dsimp only at hSw); go_simp; try with_reducible rfl⟩) (by assumption) ?_
      simp only [Act.put, List.setIfInBounds_toArray, List.set_cons_zero, List.set_cons_succ]
      refine wpAnyH_take (i := 18) (oi := ⟨some 62, _, _, _, _, _⟩) (v := _) rfl (by kernel_rfl) (by kernel_rfl) (by kernel_rfl) (fun _ _ _ h => h) (Or.inl ⟨by kernel_rfl, by intro w hSw; (try dsimp only at hSw); go_simp; try with_reducible rfl⟩) (by assumption) ?_
      simp only [Act.put, List.setIfInBounds_toArray, List.set_cons_zero, List.set_cons_succ]
      refine wpAnyH_ready (rs := [19]) (by kernel_rfl) (by simp) ?_
      refine AllReadyH.cons (o := ⟨some 63, _, _, _, _, _⟩) rfl (fun K hK => ?_) AllReadyH.nil
      go_simp
      go_at_call 124
      refine (wayBetween_any x y _ hxr hyr).mono ?_
      rw [← HWY.out]
      rintro e w9 ⟨rfl, rfl⟩
      go_wp2_with fail
      refine hK.out _ _ ?_ (fun hHeld2 => ?_)
      · (first | (try dsimp only); go_keep | (go_split_ands; refine ⟨?_, ?_, ?_, ?_⟩ <;> first | exact keepB bx5 (by assumption) | exact keepB bx4 (by assumption) | exact keepB bx3 (by assumption) | exact keepB bx2 (by assumption) | exact keepB bx1 (by assumption) | exact keepO bo5 (by first | (simp; done) | (simp; omega)) (by assumption) | exact keepO bo4 (by first | (simp; done) | (simp; omega)) (by assumption) | exact keepO bo3 (by first | (simp; done) | (simp; omega)) (by assumption) | exact keepO bo2 (by first | (simp; done) | (simp; omega)) (by assumption) | exact keepO bo1 (by first | (simp; done) | (simp; omega)) (by assumption) | exact keepW bg2 (by first | (simp; done) | (simp; omega)) (by assumption) | exact keepW bg1 (by first | (simp; done) | (simp; omega)) (by assumption) | assumption))
      clear hK K hHeld
      have hHeld := hHeld2
      clear hHeld2
      try simp only [Act.put, List.setIfInBounds_toArray, List.set_cons_zero, List.set_cons_succ]
      refine wpAnyH_take (i := 20) (oi := ⟨some 64, _, _, _, _, _⟩) (v := _) rfl (by kernel_rfl) (by kernel_rfl) (by kernel_rfl) (fun _ _ _ h => h) (Or.inl ⟨by kernel_rfl, by intro w hSw; (try dsimp only at hSw); go_simp; try with_reducible rfl⟩) (by assumption) ?_
      simp only [Act.put, List.setIfInBounds_toArray, List.set_cons_zero, List.set_cons_succ]
      refine wpAnyH_take (i := 21) (oi := ⟨some 8, _, _, _, _, _⟩) (v := _) rfl (by kernel_rfl) (by kernel_rfl) (by kernel_rfl) (fun _ _ _ h => h) (Or.inl ⟨by kernel_rfl, by intro w hSw; (try dsimp only at hSw); go_simp; try with_reducible rfl⟩) (by assumption) ?_
      simp only [Act.put, List.setIfInBounds_toArray, List.set_cons_zero, List.set_cons_succ]
      refine wpAnyH_done (by kernel_rfl) ?_ _
      clear hHeld
      go_wp2
      refine wp_region_last (S := fun w' => w'.cell? ⟨w.heap.size, k, none⟩ = some (.slice (some ⟨q2, 0, none⟩) n c2) ∧ w'.cell? ⟨q2, j', none⟩ = some (.int .i64 r) ∧ w'.cell? ⟨q2, j, none⟩ = some (.int .i64 1441)) 16 (by kernel_rfl) ?_ (fun hHeld => ?_)
      · (first | (try dsimp only); go_keep | (go_split_ands; refine ⟨?_, ?_, ?_⟩ <;> first | exact keepB bx5 (by assumption) | exact keepB bx4 (by assumption) | exact keepB bx3 (by assumption) | exact keepB bx2 (by assumption) | exact keepB bx1 (by assumption) | exact keepO bo5 (by first | (simp; done) | (simp; omega)) (by assumption) | exact keepO bo4 (by first | (simp; done) | (simp; omega)) (by assumption) | exact keepO bo3 (by first | (simp; done) | (simp; omega)) (by assumption) | exact keepO bo2 (by first | (simp; done) | (simp; omega)) (by assumption) | exact keepO bo1 (by first | (simp; done) | (simp; omega)) (by assumption) | exact keepW bg2 (by first | (simp; done) | (simp; omega)) (by assumption) | exact keepW bg1 (by first | (simp; done) | (simp; omega)) (by assumption) | assumption))
      refine AnyL.take (i := 0) (oi := ⟨some 65, _, _, _, _, _⟩) (v := _) rfl (by kernel_rfl) (by kernel_rfl) (by kernel_rfl) (by kernel_rfl) (fun _ _ _ h => h) (Or.inl ⟨by kernel_rfl, by intro w hSw; (try dsimp only at hSw); go_simp; try with_reducible rfl⟩) (by assumption) ?_
      simp only [Act.put, List.setIfInBounds_toArray, List.set_cons_zero, List.set_cons_succ]
      refine AnyL.take (i := 1) (oi := ⟨some 66, _, _, _, _, _⟩) (v := _) rfl (by kernel_rfl) (by kernel_rfl) (by kernel_rfl) (by kernel_rfl) (fun _ _ _ h => h) (Or.inl ⟨by kernel_rfl, by intro w hSw; (try dsimp only at hSw); go_simp; try with_reducible rfl⟩) (by assumption) ?_
      simp only [Act.put, List.setIfInBounds_toArray, List.set_cons_zero, List.set_cons_succ]
      refine AnyL.take (i := 2) (oi := ⟨some 67, _, _, _, _, _⟩) (v := _) rfl (by kernel_rfl) (by kernel_rfl) (by kernel_rfl) (by kernel_rfl) (fun _ _ _ h => h) (Or.inl ⟨by kernel_rfl, by intro w hSw; (try dsimp only at hSw); go_simp; try with_reducible rfl⟩) (by assumption) ?_
      simp only [Act.put, List.setIfInBounds_toArray, List.set_cons_zero, List.set_cons_succ]
      refine AnyL.take (i := 3) (oi := ⟨some 68, _, _, _, _, _⟩) (v := _) rfl (by kernel_rfl) (by kernel_rfl) (by kernel_rfl) (by kernel_rfl) (fun _ _ _ h => h) (Or.inl ⟨by kernel_rfl, by intro w hSw; (try dsimp only at hSw); go_simp; try with_reducible rfl⟩) (by assumption) ?_
      simp only [Act.put, List.setIfInBounds_toArray, List.set_cons_zero, List.set_cons_succ]
      refine AnyL.take (i := 4) (oi := ⟨some 69, _, _, _, _, _⟩) (v := _) rfl (by kernel_rfl) (by kernel_rfl) (by kernel_rfl) (by kernel_rfl) (fun _ _ _ h => h) (Or.inl ⟨by kernel_rfl, by intro w hSw; (try dsimp only at hSw); go_simp; try with_reducible rfl⟩) (by assumption) ?_
      simp only [Act.put, List.setIfInBounds_toArray, List.set_cons_zero, List.set_cons_succ]
      refine AnyL.take (i := 5) (oi := ⟨some 70, _, _, _, _, _⟩) (v := _) rfl (by kernel_rfl) (by kernel_rfl) (by kernel_rfl) (by kernel_rfl) (fun _ _ _ h => h) (Or.inl ⟨by kernel_rfl, by intro w hSw; (try dsimp only at hSw); go_simp; try with_reducible rfl⟩) (by assumption) ?_
      simp only [Act.put, List.setIfInBounds_toArray, List.set_cons_zero, List.set_cons_succ]
      refine AnyL.take (i := 6) (oi := ⟨some 71, _, _, _, _, _⟩) (v := _) rfl (by kernel_rfl) (by kernel_rfl) (by kernel_rfl) (by kernel_rfl) (fun _ _ _ h => h) (Or.inl ⟨by kernel_rfl, by intro w hSw; (try dsimp only at hSw); go_simp; try with_reducible rfl⟩) (by assumption) ?_
      simp only [Act.put, List.setIfInBounds_toArray, List.set_cons_zero, List.set_cons_succ]
      refine AnyL.take (i := 7) (oi := ⟨some 72, _, _, _, _, _⟩) (v := _) rfl (by kernel_rfl) (by kernel_rfl) (by kernel_rfl) (by kernel_rfl) (fun _ _ _ h => h) (Or.inl ⟨by kernel_rfl, by intro w hSw; (try dsimp only at hSw); go_simp; try with_reducible rfl⟩) (by assumption) ?_
      simp only [Act.put, List.setIfInBounds_toArray, List.set_cons_zero, List.set_cons_succ]
      refine AnyL.take (i := 8) (oi := ⟨some 73, _, _, _, _, _⟩) (v := _) rfl (by kernel_rfl) (by kernel_rfl) (by kernel_rfl) (by kernel_rfl) (fun _ _ _ h => h) (Or.inl ⟨by kernel_rfl, by intro w hSw; (try dsimp only at hSw); go_simp; try with_reducible rfl⟩) (by assumption) ?_
      simp only [Act.put, List.setIfInBounds_toArray, List.set_cons_zero, List.set_cons_succ]
      refine AnyL.take (i := 9) (oi := ⟨some 74, _, _, _, _, _⟩) (v := _) rfl (by kernel_rfl) (by kernel_rfl) (by kernel_rfl) (by kernel_rfl) (fun _ _ _ h => h) (Or.inl ⟨by kernel_rfl, by intro w hSw; (try dsimp only at hSw); go_simp; try with_reducible rfl⟩) (by assumption) ?_
      simp only [Act.put, List.setIfInBounds_toArray, List.set_cons_zero, List.set_cons_succ]
      refine AnyL.take (i := 10) (oi := ⟨some 75, _, _, _, _, _⟩) (v := _) rfl (by kernel_rfl) (by kernel_rfl) (by kernel_rfl) (by kernel_rfl) (fun _ _ _ h => h) (Or.inl ⟨by kernel_rfl, by intro w hSw; (try dsimp only at hSw); go_simp; try with_reducible rfl⟩) (by assumption) ?_
      simp only [Act.put, List.setIfInBounds_toArray, List.set_cons_zero, List.set_cons_succ]
      refine AnyL.take (i := 11) (oi := ⟨some 76, _, _, _, _, _⟩) (v := _) rfl (by kernel_rfl) (by kernel_rfl) (by kernel_rfl) (by kernel_rfl) (fun _ _ _ h => h) (Or.inl ⟨by kernel_rfl, by intro w hSw; (try dsimp only at hSw); go_simp; try with_reducible rfl⟩) (by assumption) ?_
      simp only [Act.put, List.setIfInBounds_toArray, List.set_cons_zero, List.set_cons_succ]
      refine AnyL.take (i := 12) (oi := ⟨some 77, _, _, _, _, _⟩) (v := _) rfl (by kernel_rfl) (by kernel_rfl) (by kernel_rfl) (by kernel_rfl) (fun _ _ _ h => h) (Or.inl ⟨by kernel_rfl, by intro w hSw; (try dsimp only at hSw); go_simp; try with_reducible rfl⟩) (by assumption) ?_
      simp only [Act.put, List.setIfInBounds_toArray, List.set_cons_zero, List.set_cons_succ]
      refine AnyL.take (i := 13) (oi := ⟨some 78, _, _, _, _, _⟩) (v := _) rfl (by kernel_rfl) (by kernel_rfl) (by kernel_rfl) (by kernel_rfl) (fun _ _ _ h => h) (Or.inl ⟨by kernel_rfl, by intro w hSw; (try dsimp only at hSw); go_simp; try with_reducible rfl⟩) (by assumption) ?_
      simp only [Act.put, List.setIfInBounds_toArray, List.set_cons_zero, List.set_cons_succ]
      refine AnyL.take (i := 14) (oi := ⟨some 79, _, _, _, _, _⟩) (v := _) rfl (by kernel_rfl) (by kernel_rfl) (by kernel_rfl) (by kernel_rfl) (fun _ _ _ h => h) (Or.inl ⟨by kernel_rfl, by intro w hSw; (try dsimp only at hSw); go_simp; try with_reducible rfl⟩) (by assumption) ?_
      simp only [Act.put, List.setIfInBounds_toArray, List.set_cons_zero, List.set_cons_succ]
      refine AnyL.take (i := 15) (oi := ⟨some 80, _, _, _, _, _⟩) (v := _) rfl (by kernel_rfl) (by kernel_rfl) (by kernel_rfl) (by kernel_rfl) (fun _ _ _ h => h) (Or.inl ⟨by kernel_rfl, by intro w hSw; (try dsimp only at hSw); go_simp; try with_reducible rfl⟩) (by assumption) ?_
      simp only [Act.put, List.setIfInBounds_toArray, List.set_cons_zero, List.set_cons_succ]
      refine AnyL.last (o := ⟨none, _, _, _, _, _⟩) (by kernel_rfl) rfl (by kernel_rfl) (fun K hK => ?_)
      go_simp
      refine hK.out _ _ ?_
      clear hK K hHeld
      go_wp2
      go_roundw
      case rel => exact ⟨j + 1, hjn, by go_num, by show OwnR _ _ _ _ _ _ _; rw [show (w7.setCell ⟨q2, j, none⟩ (.int .i64 (min r (p + wy)))).drew.drew.heap.size = w7.heap.size by simp [World.setCell]]; exact HZ.out, (HB7.out.setCell (p := ⟨q2, j, none⟩) hs3 _).drew.drew⟩
      case measure => simp [intOf]; omega
theorem tabO_row {m n k i : Nat} {f : Nat → Nat → Int} (hi : i < m) (hk : i < k) : gr (tabO m n k f) i = (List.range n).map (f i) := by
  rw [gr_eq (by rw [tabO_len]; exact hi)]
  simp only [tabO, List.getElem_map, List.getElem_range]
  rw [if_pos hk]
theorem tab_at {w : World} {lo hi m n i j : Nat} {v : Value} {f : Nat → Nat → Int} (h : IRows w lo hi v (tabO m n m f)) (hi' : i < m) (hj : j < n) :
    ∃ b o c b2 o2 c2, v = .slice (some ⟨b, o, none⟩) m c ∧ m ≤ c ∧ c ≤ 2 ^ 63 - 1 ∧ w.cell? ⟨b, o + i, none⟩ = some (.slice (some ⟨b2, o2, none⟩) n c2) ∧ n ≤ c2 ∧ c2 ≤ 2 ^ 63 - 1 ∧ w.cell? ⟨b2, o2 + j, none⟩ = some (.int .i64 (f i j)) := by
  obtain ⟨A, c, rfl, hc, hc2⟩ := h.form
  obtain ⟨b, o, Ai, ci, rfl, _, _, h1, h2, h3, h4⟩ := h.row (r := i) (by rw [tabO_len]; exact hi')
  have e := tabO_row (n := n) (f := f) hi' hi'
  have el : (gr (tabO m n m f) i).length = n := by rw [e]; simp
  obtain ⟨b2, o2, rfl, _, _, h5, _⟩ := h4.cell (k := j) (by rw [el]; exact hj)
  rw [e, gi_map_range hj] at h5
  rw [el] at h1 h2
  rw [tabO_len] at hc ⊢
  exact ⟨b, o, c, b2, o2, ci, rfl, hc, hc2, h1, h2, h3, h5⟩
set_option maxRecDepth 100000 in
set_option maxHeartbeats 2000000 in
/-- the way of valid knives, those of the shorter list first -/
theorem MoveKnives_le (lo hi l2 h2 : Nat) (v u : Value) (a b : List Int) (w : World) (h : Ints w lo hi v a) (hhi : hi ≤ w.heap.size) (hy : Ints w l2 h2 u b) (hh2 : h2 ≤ w.heap.size) (ha : vKn a = true) (hb : vKn b = true) :
    Calls Try.prog 70 #[v, u] w fun e w' => e = .returned (.int .i64 (mvL a b)) ∧ Below w.heap.size w w' := by
  obtain ⟨A, c, rfl, hc, hm⟩ := h.form
  obtain ⟨B, d, rfl, hd, hm2⟩ := hy.form
  have hal := (vKn_iff.1 ha).1
  have hbl := (vKn_iff.1 hb).1
  have HLW := Lib.hid (leastWays_any lo hi l2 h2 _ _ a b w h hhi hy hh2 ha hb)
  have HLX := Lib.hid (leastWays_any l2 h2 lo hi _ _ b a w hy hh2 h hhi hb ha)
  by_cases hlt : b.length < a.length
  · have hlt' : (b.length : Int) < (a.length : Int) := by omega
    have HR := Lib.hid (show lwT b a b.length a.length = mvL a b by rw [mv_lw hb ha (by omega), mvL_swap hlt])
    go_enter Try.func70, Try.ntmps70
    go_wp2_with fail
    refine (ValidKnives_any lo hi _ a w h).mono ?_
    rw [ha]
    rintro e w9 ⟨rfl, rfl⟩
    go_wp2_with fail
    refine (ValidKnives_any l2 h2 _ b w hy).mono ?_
    rw [hb]
    rintro e w9 ⟨rfl, rfl⟩
    go_wp2_with fail
    refine HLX.out.mono ?_
    rintro e w1 ⟨v1, rfl, hr, hb1⟩
    obtain ⟨m, hm9⟩ : ∃ m, m = b.length + 1 := ⟨_, rfl⟩
    obtain ⟨n, hn9⟩ : ∃ n, n = a.length + 1 := ⟨_, rfl⟩
    rw [← hm9, ← hn9] at hr
    obtain ⟨b1, o1, c1, b2, o2, c2, hv1, hcm, hcm2, hc1, hcn, hcn2, hc2⟩ := tab_at hr (i := b.length) (j := a.length) (by omega) (by omega)
    subst hv1
    have x0 : (0 : Int) ≤ (b.length : Int) := by omega
    have x1 : (b.length : Int) < (m : Int) := by omega
    have x2 : (0 : Int) ≤ (a.length : Int) := by omega
    have x3 : (a.length : Int) < (n : Int) := by omega
    rw [HR.out] at hc2
    have HB1 := Lib.hid hb1
    clear hr hb1 hm9 hn9
    go_wp2
    go_ret
    exact ⟨rfl, HB1.out⟩
  · have hlt' : ¬ (b.length : Int) < (a.length : Int) := by omega
    have HR := Lib.hid (show lwT a b a.length b.length = mvL a b from mv_lw ha hb (by omega))
    go_enter Try.func70, Try.ntmps70
    go_wp2_with fail
    refine (ValidKnives_any lo hi _ a w h).mono ?_
    rw [ha]
    rintro e w9 ⟨rfl, rfl⟩
    go_wp2_with fail
    refine (ValidKnives_any l2 h2 _ b w hy).mono ?_
    rw [hb]
    rintro e w9 ⟨rfl, rfl⟩
    go_wp2_with fail
    refine HLW.out.mono ?_
    rintro e w1 ⟨v1, rfl, hr, hb1⟩
    obtain ⟨m, hm9⟩ : ∃ m, m = a.length + 1 := ⟨_, rfl⟩
    obtain ⟨n, hn9⟩ : ∃ n, n = b.length + 1 := ⟨_, rfl⟩
    rw [← hm9, ← hn9] at hr
    obtain ⟨b1, o1, c1, b2, o2, c2, hv1, hcm, hcm2, hc1, hcn, hcn2, hc2⟩ := tab_at hr (i := a.length) (j := b.length) (by omega) (by omega)
    subst hv1
    have x0 : (0 : Int) ≤ (a.length : Int) := by omega
    have x1 : (a.length : Int) < (m : Int) := by omega
    have x2 : (0 : Int) ≤ (b.length : Int) := by omega
    have x3 : (b.length : Int) < (n : Int) := by omega
    rw [HR.out] at hc2
    have HB1 := Lib.hid hb1
    clear hr hb1 hm9 hn9
    go_wp2
    go_ret
    exact ⟨rfl, HB1.out⟩
end Go.Proofs.Yteckjiaaikdghaa
