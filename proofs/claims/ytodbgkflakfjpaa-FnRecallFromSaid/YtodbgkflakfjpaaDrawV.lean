/-
  Lemmas and contracts of single functions of this program, used by the proofs of its laws: what each call returns and what becomes of memory. Conditions: the hypotheses of each theorem.
-/
import Derived.Test.YtodbgkflakfjpaaDrawU
import Derived.Test.YtodbgkflakfjpaaReelI
namespace Go.Proofs.Ytodbgkflakfjpaa
open Go.RowKit
attribute [local go_sem ↓] Go.wp_at_zero Go.wp_at_succ

set_option maxRecDepth 100000 in
set_option maxHeartbeats 1600000 in
theorem whichMeets_any (lo hi : Nat) (v : Value) (ps : List (List Int)) (l r f t : Int) (w : World) (h : TS w lo hi 4 v ps) (hhi : hi ≤ w.heap.size) :
    Calls Try.prog 137 #[v, .agg #[.int .i64 l, .int .i64 r, .int .i64 f, .int .i64 t]] w fun e w' => ∃ i : Int, e = .returned (.int .i64 i) ∧ Below w.heap.size w w' := by
  obtain ⟨B, c2, rfl, hc2, hm2⟩ := h.form
  have Hs := Lib.hid (show ∃ w1, w1 = (w.alloc (.cells #[.int .i64 l, .int .i64 r, .int .i64 f, .int .i64 t] 58)) ∧ Below w.heap.size w w1 ∧ w1.cell? ⟨w.heap.size, 0, none⟩ = some (.int .i64 l) ∧ w1.cell? ⟨w.heap.size, 1, none⟩ = some (.int .i64 r) ∧ w1.cell? ⟨w.heap.size, 2, none⟩ = some (.int .i64 f) ∧ w1.cell? ⟨w.heap.size, 3, none⟩ = some (.int .i64 t) ∧ TS w1 lo hi 4 (.slice B ps.length c2) ps ∧ w.heap.size < w1.heap.size from by
    have hb : Below w.heap.size w (w.alloc (.cells #[.int .i64 l, .int .i64 r, .int .i64 f, .int .i64 t] 58)) := (Below.refl _ _).alloc (Nat.le_refl _) _
    exact ⟨_, rfl, hb, by go_simp, by go_simp, by go_simp, by go_simp, h.below hb hhi, by simp⟩)
  go_enter Try.func137, Try.ntmps137
  go_wp2_with (fail)
  obtain ⟨w1, hw1, hb0, c00, c01, c02, c03, hT0, hz⟩ := Hs.out
  rw [← hw1]
  clear hw1 Hs
  clear h
  go_loopw [5] (fun i wr => ∃ k : Nat, k ≤ ps.length ∧ i = .int .i64 k ∧ Below w1.heap.size w1 wr) (fun i _ => ps.length - (intOf i).toNat)
  case atStart => exact ⟨0, by omega, rfl, Below.refl _ _⟩
  case round =>
    obtain ⟨k, hk, rfl, bw⟩ := hrel
    have hzr := bw.size
    replace c00 := keepB bw c00; replace c01 := keepB bw c01; replace c02 := keepB bw c02; replace c03 := keepB bw c03
    by_cases hlt : k < ps.length
    · obtain ⟨b, o, rfl, hb2, hb3, e0, e1, e2, e3⟩ := (hT0.below bw (by omega)).c4 hlt
      have hk0 : (0 : Int) ≤ (k : Int) := by omega
      have hk1 : (k : Int) < (ps.length : Int) := by omega
      have HT := Lib.hid hT0
      clear hT0
      go_wp2
      go_region_held3 (fun w' => w'.cell? ⟨w.heap.size, 0, none⟩ = some (.int .i64 l) ∧ w'.cell? ⟨w.heap.size, 1, none⟩ = some (.int .i64 r) ∧ w'.cell? ⟨w.heap.size, 2, none⟩ = some (.int .i64 f) ∧ w'.cell? ⟨w.heap.size, 3, none⟩ = some (.int .i64 t) ∧ w'.cell? ⟨b, o + k * 4, none⟩ = some (.int .i64 (gi (gr ps k) 0)) ∧ w'.cell? ⟨b, o + k * 4 + 1, none⟩ = some (.int .i64 (gi (gr ps k) 1)) ∧ w'.cell? ⟨b, o + k * 4 + 2, none⟩ = some (.int .i64 (gi (gr ps k) 2)) ∧ w'.cell? ⟨b, o + k * 4 + 3, none⟩ = some (.int .i64 (gi (gr ps k) 3))) (first | go_keep | (go_split_ands; refine ⟨?_, ?_, ?_, ?_, ?_, ?_, ?_, ?_⟩ <;> first | exact keepB bx5 (by assumption) | exact keepB bx4 (by assumption) | exact keepB bx3 (by assumption) | exact keepB bx2 (by assumption) | exact keepB bx1 (by assumption))) (first | (go_at_call 109; refine (partsMeet_any _ _ _ _ _ _ _ _ _).mono ?_; rintro e x1 ⟨rfl, bx1⟩))
      have bx2 := of_drew bx1
      have hbw := bw.trans (bx2.mono hzr)
      clear e0 e1 e2 e3 bx1
      cases hd : meetB (gi (gr ps k) 0) (gi (gr ps k) 1) (gi (gr ps k) 2) (gi (gr ps k) 3) l r f t
      · go_wp2
        go_roundw
        case rel => exact ⟨k + 1, by omega, by go_num, hbw⟩
        case measure => simp [intOf]; omega
      · go_wp2
        go_ret
        exact ⟨_, rfl, hb0.trans (hbw.mono (by omega))⟩
    · go_wp2
      go_ret
      exact ⟨_, rfl, hb0.trans (bw.mono (by omega))⟩
set_option maxRecDepth 100000 in
set_option maxHeartbeats 4000000 in
theorem someCuts_any (B k g lo hi : Nat) (v u : Value) (W L : Int) (ds : List (List Int)) (w : World) (h : Rdr w B k g v) (hk : k ≤ 800000) (hd : TS w lo hi 5 u ds) (hhi : hi ≤ w.heap.size) :
    Calls Try.prog 119 #[v, .agg #[.int .i64 W, .int .i64 L, u]] w fun e w' => ∃ (z : Value) (ps : List (List Int)) (k' : Nat), e = .returned z ∧ OwnT w' w.heap.size 58 4 z ps ∧ ps.length ≤ 8 ∧ Rdr w' B k' g v ∧ k' ≤ k + 50 ∧ w.grownBy w' (some g) := by
  have hg0 := h.lt
  obtain ⟨A, c, rfl, hc, hm⟩ := hd.form
  have Hs := Lib.hid (show ∃ w1, w1 = (w.alloc (.cells #[.int .i64 W, .int .i64 L, .slice A ds.length c] 30)) ∧ Below w.heap.size w w1 ∧ w1.cell? ⟨w.heap.size, 0, none⟩ = some (.int .i64 W) ∧ w1.cell? ⟨w.heap.size, 1, none⟩ = some (.int .i64 L) ∧ w1.cell? ⟨w.heap.size, 2, none⟩ = some (.slice A ds.length c) ∧ TS w1 lo hi 5 (.slice A ds.length c) ds ∧ w.heap.size < w1.heap.size from by
    have hb : Below w.heap.size w (w.alloc (.cells #[.int .i64 W, .int .i64 L, .slice A ds.length c] 30)) := (Below.refl _ _).alloc (Nat.le_refl _) _
    exact ⟨_, rfl, hb, by go_simp, by go_simp, by go_simp, hd.below hb hhi, by simp⟩)
  have hr1 : ∀ w1, Below w.heap.size w w1 → Rdr w1 B k g v := fun w1 hb => h.below hb
  go_enter Try.func119, Try.ntmps119
  go_wp2_with fail
  obtain ⟨w1, hw1, hb0, c00, c01, c02, hT0, hz⟩ := Hs.out
  have HZ := Lib.hid (show w1.heap.size = w.heap.size + 1 by rw [hw1]; simp)
  rw [← hw1]
  clear hw1 Hs
  have hr := hr1 w1 hb0
  have hgr := grown_below hb0 (some g)
  clear hr1 h hd
  obtain ⟨w2, hw2⟩ : ∃ w2, w2 = w1.alloc (.cells #[] 58) := ⟨_, rfl⟩
  have b2 : Below w1.heap.size w1 w2 := by rw [hw2]; exact (Below.refl _ _).alloc (Nat.le_refl _) _
  have ho : OwnT w2 (w.heap.size + 1) 58 4 (.slice (some ⟨w.heap.size + 1, 0, none⟩) 0 0) [] := by rw [hw2, ← HZ.out]; exact OwnT.empty w1 w1.heap.size _ 4 (Nat.le_refl _)
  rw [← hw2]
  clear hw2
  replace c00 := keepB b2 c00; replace c01 := keepB b2 c01; replace c02 := keepB b2 c02
  have hT2 := hT0.below b2 (by omega)
  have hr2 := hr.below b2
  have hgr2 := grown_trans hgr (grown_below b2 (some g))
  have hz2 := b2.size
  clear hT0 hr hgr hb0 b2
  refine (validReel_any lo hi W L _ ds w2 hT2 (by omega)).mono ?_
  rintro e w3 ⟨rfl, b⟩
  replace c00 := keepB b c00; replace c01 := keepB b c01; replace c02 := keepB b c02
  have ho3 := ho.kept (.of_below b (Nat.le_refl _))
  have hr3 := hr2.below b
  have hgr3 := grown_trans hgr2 (grown_below b (some g))
  have hz3 := b.size
  clear hT2 hr2 hgr2 b ho
  cases hv : vReel W L ds
  · clear hv
    go_wp2
    go_ret
    exact ⟨_, [], k, rfl, ho3.base (by omega), by simp, hr3, by omega, hgr3⟩
  · have hrg := vReel_rng hv
    clear hv
    go_wp2_with fail
    refine (one_lit B k g v [3, 4, 2, 6, 0, 8] w3 _ _ _ hr3 (by omega) rfl rfl rfl (by simp) (by simp) (by unfold I64; simp)).mono ?_
    rintro e w4 ⟨n0, rfl, hn, hr4, bg1⟩
    have hn0 : 0 ≤ n0 ∧ n0 ≤ 8 := by simp only [List.mem_cons, List.not_mem_nil, or_false] at hn; omega
    obtain ⟨n0, rfl⟩ := Int.eq_ofNat_of_zero_le hn0.1
    replace c00 := keepW bg1 (by first | (simp; done) | (simp; omega)) c00; replace c01 := keepW bg1 (by first | (simp; done) | (simp; omega)) c01
    have ho4 := ho3.grown bg1 (by omega)
    have hgr4 := grown_trans hgr3 bg1
    have hz4 := bg1.size
    clear hn hr3 bg1 hgr3 ho3 c02
    go_wp2_with fail
    go_loopw [5, 6] (fun z i wr => ∃ (n k' : Nat) (ps : List (List Int)), i = .int .i64 n ∧ ps.length + n ≤ 8 ∧ k' + 5 * n ≤ k + 41 ∧ Rdr wr B k' g v ∧ w.grownBy wr (some g) ∧ OwnT wr (w.heap.size + 1) 58 4 z ps ∧ w.heap.size + 1 ≤ wr.heap.size ∧ wr.cell? ⟨w.heap.size, 0, none⟩ = some (.int .i64 W) ∧ wr.cell? ⟨w.heap.size, 1, none⟩ = some (.int .i64 L)) (fun _ i _ => (intOf i).toNat)
    case atStart => exact ⟨n0, k + 1, [], rfl, by simp; omega, by omega, hr4, hgr4, ho4, by omega, c00, c01⟩
    case round =>
      clear hr4 hgr4 ho4 hz4 c00 c01 hz2 hz3
      obtain ⟨n, k', ps, rfl, hpn, hkk, hr, hgr, ho, hzr, c00, c01⟩ := hrel
      by_cases hlt : 0 < n
      · obtain ⟨n1, rfl⟩ : ∃ n1, n = n1 + 1 := ⟨n - 1, by omega⟩
        have hltI : (0 : Int) < (n1 : Int) + 1 := by omega
        go_wp2_with fail
        refine (somePart_any B k' g v W L wr hr (by omega) (by omega) (by omega) (by omega) (by omega)).mono ?_
        rintro e wa ⟨l, r, f, t, rfl, hb, hra, bg1⟩
        replace c00 := keepW bg1 (by first | (simp; done) | (simp; omega)) c00; replace c01 := keepW bg1 (by first | (simp; done) | (simp; omega)) c01
        have hoa := ho.grown bg1 (by omega)
        have hgra := grown_trans hgr bg1
        have hza := bg1.size
        clear hr ho bg1 hgr
        go_wp2_with fail
        obtain ⟨wb, hw1⟩ : ∃ wb, wb = wa.alloc (.cells #[.int .i64 l, .int .i64 r, .int .i64 f, .int .i64 t] 58) := ⟨_, rfl⟩
        have p0 : wb.cell? ⟨wa.heap.size, 0, none⟩ = some (.int .i64 l) := by rw [hw1]; go_simp
        have p1 : wb.cell? ⟨wa.heap.size, 1, none⟩ = some (.int .i64 r) := by rw [hw1]; go_simp
        have p2 : wb.cell? ⟨wa.heap.size, 2, none⟩ = some (.int .i64 f) := by rw [hw1]; go_simp
        have p3 : wb.cell? ⟨wa.heap.size, 3, none⟩ = some (.int .i64 t) := by rw [hw1]; go_simp
        have bp : Below wa.heap.size wa wb := by rw [hw1]; exact (Below.refl _ _).alloc (Nat.le_refl _) _
        have zp : wa.heap.size < wb.heap.size := by rw [hw1]; simp
        have HZp := Lib.hid (show wb.heap.size = wa.heap.size + 1 by rw [hw1]; simp)
        have fp0 : wb.frozen? ⟨wa.heap.size, 0, none⟩ = false := by rw [hw1]; go_simp
        have fp1 : wb.frozen? ⟨wa.heap.size, 1, none⟩ = false := by rw [hw1]; go_simp
        have fp2 : wb.frozen? ⟨wa.heap.size, 2, none⟩ = false := by rw [hw1]; go_simp
        have fp3 : wb.frozen? ⟨wa.heap.size, 3, none⟩ = false := by rw [hw1]; go_simp
        have Hp := Lib.hid (show wb.heap[wa.heap.size]? = some (.cells #[.int .i64 l, .int .i64 r, .int .i64 f, .int .i64 t] 58) by rw [hw1]; exact heap_alloc_new wa _)
        rw [← hw1]
        clear hw1
        replace c00 := keepB bp c00; replace c01 := keepB bp c01
        have hob := hoa.kept (.of_below bp (Nat.le_refl _))
        have hlo := hoa.lt
        have hrb := hra.below bp
        have hgrb := grown_trans hgra (grown_below bp (some g))
        have hzb : wa.heap.size + 1 ≤ wb.heap.size := by have := HZp.out; omega
        clear hra hoa hgra bp
        refine (pick_any B (k' + 4) g v 2 wb hrb (by omega) (by omega)).mono ?_
        rintro e wc ⟨y, rfl, hy, hrc, bo1⟩
        replace c00 := keepO bo1 (by first | (simp; done) | (simp; omega)) c00; replace c01 := keepO bo1 (by first | (simp; done) | (simp; omega)) c01; replace p0 := keepO bo1 (by first | (simp; done) | (simp; omega)) p0; replace p1 := keepO bo1 (by first | (simp; done) | (simp; omega)) p1; replace p2 := keepO bo1 (by first | (simp; done) | (simp; omega)) p2; replace p3 := keepO bo1 (by first | (simp; done) | (simp; omega)) p3
        replace fp0 := keepOF bo1 (by first | (simp; done) | (simp; omega)) fp0; replace fp1 := keepOF bo1 (by first | (simp; done) | (simp; omega)) fp1; replace fp2 := keepOF bo1 (by first | (simp; done) | (simp; omega)) fp2; replace fp3 := keepOF bo1 (by first | (simp; done) | (simp; omega)) fp3
        have hoc := hob.kept (bo1.kept (.inr (by omega)))
        have hgrc := grown_trans hgrb (grown_only bo1)
        have hzc := bo1.size
        obtain ⟨e0, he0⟩ : ∃ e, (y == 0) = e := ⟨_, rfl⟩
        clear hy bo1 hob hrb hgrb zp HZp Hp
        cases e0
        · go_wp2_with fail
          obtain ⟨wd, hwd⟩ : ∃ wd, wd = wc := ⟨_, rfl⟩
          rw [← hwd] at hoc hrc hgrc hzc c00 c01 p0 p1 p2 p3
          rw [← hwd]
          clear hwd he0
          have hod := hoc
          have hrd := hrc
          have hgrd := hgrc
          refine (whichMeets_any _ _ _ ps l r f t wd hod.ts (Nat.le_refl _)).mono ?_
          rintro e we ⟨q, rfl, b⟩
          replace c00 := keepB b c00; replace c01 := keepB b c01; replace p0 := keepB b p0; replace p1 := keepB b p1; replace p2 := keepB b p2; replace p3 := keepB b p3
          have hoe := hod.kept (.of_below b (Nat.le_refl _))
          have hre := hrd.below b
          have hgre := grown_trans hgrd (grown_below b (some g))
          have hze := b.size
          have Ho := Lib.hid hoe
          clear b hod hrd hgrd hoe
          by_cases hq : q < 0
          · go_wp2_with (at_builtin; refine wpList_appendT SlPart _ rfl (.tmp 47) (.tmp 49) rfl [l, r, f, t] _ rfl (w.heap.size + 1) _ _ rfl rfl Ho.out ⟨rfl, i64_4 ⟨by omega, by omega⟩ ⟨by omega, by omega⟩ ⟨by omega, by omega⟩ ⟨by omega, by omega⟩⟩ (by omega) (by omega) (by omega) ?_; intro v' wf ho3 hg3)
            have bA := hg3.below
            replace c00 := keepC bA (by first | (simp; done) | (simp; omega)) c00; replace c01 := keepC bA (by first | (simp; done) | (simp; omega)) c01
            have hrf := hre.grew hg3 (by omega)
            have hgrf := grown_then hgre hg3.below (by omega)
            have hzf := hg3.size
            clear p0 p1 p2 p3 hg3 bA hre hgre
            go_roundw
            case rel => exact ⟨n1, k' + 5, _, by go_num, by rw [List.length_append]; simp; omega, by omega, hrf, hgrf, ho3, by omega, c00, c01⟩
            case measure => simp [intOf]
          · clear p0 p1 p2 p3
            go_wp2
            go_roundw
            case rel => exact ⟨n1, k' + 5, _, by go_num, by omega, by omega, hre, hgre, Ho.out, by omega, c00, c01⟩
            case measure => simp [intOf]
        · have g1 : wrap64 (l + 3) = l + 3 := w64 (by omega)
          have g2 : wrap64 (f + 10) = f + 10 := w64 (by omega)
          go_wp2_with fail
          clear g1 g2 he0
          obtain ⟨wd, hwd⟩ : ∃ wd, wd = (wc.setCell ⟨wa.heap.size, 1, none⟩ (.int .i64 (min r (l + 3)))).setCell ⟨wa.heap.size, 3, none⟩ (.int .i64 (min t (f + 10))) := ⟨_, rfl⟩
          have hne : ¬ wa.heap.size = w.heap.size := by omega
          have q0 : wd.cell? ⟨wa.heap.size, 0, none⟩ = some (.int .i64 l) := by rw [hwd]; go_simp
          have q1 : wd.cell? ⟨wa.heap.size, 1, none⟩ = some (.int .i64 (min r (l + 3))) := by rw [hwd]; go_simp
          have q2 : wd.cell? ⟨wa.heap.size, 2, none⟩ = some (.int .i64 f) := by rw [hwd]; go_simp
          have q3 : wd.cell? ⟨wa.heap.size, 3, none⟩ = some (.int .i64 (min t (f + 10))) := by rw [hwd]; go_simp
          have d0 : wd.cell? ⟨w.heap.size, 0, none⟩ = some (.int .i64 W) := by rw [hwd]; go_simp
          have d1 : wd.cell? ⟨w.heap.size, 1, none⟩ = some (.int .i64 L) := by rw [hwd]; go_simp
          have hod := (hoc.setT (p := ⟨wa.heap.size, 1, none⟩) (fun g hg => by have := (hlo g hg).2; show ¬ wa.heap.size = g; omega) (.int .i64 (min r (l + 3)))).setT (p := ⟨wa.heap.size, 3, none⟩) (fun g hg => by have := (hlo g hg).2; show ¬ wa.heap.size = g; omega) (.int .i64 (min t (f + 10)))
          rw [← hwd] at hod
          have hrd : Rdr wd B (k' + 4 + 1) g v := by rw [hwd]; exact (hrc.set ⟨by show B ≤ wa.heap.size; omega, by show ¬ wa.heap.size = g; omega⟩ _).set ⟨by show B ≤ wa.heap.size; omega, by show ¬ wa.heap.size = g; omega⟩ _
          have hgrd : w.grownBy wd (some g) := by rw [hwd]; exact grown_setCell (grown_setCell hgrc (by show w.heap.size ≤ wa.heap.size; omega) _) (by show w.heap.size ≤ wa.heap.size; omega) _
          have hzd : wd.heap.size = wc.heap.size := by rw [hwd]; simp [World.setCell]
          have hzc2 : wa.heap.size + 1 ≤ wd.heap.size := by omega
          rw [← hwd]
          clear hwd hzd hoc hrc hgrc c00 c01 p0 p1 p2 p3 fp0 fp1 fp2 fp3 hne
          have p0 := q0
          have p1 := q1
          have p2 := q2
          have p3 := q3
          have c00 := d0
          have c01 := d1
          clear q0 q1 q2 q3 d0 d1
          have hm1 : -10 ≤ min r (l + 3) ∧ min r (l + 3) ≤ 4000 := by omega
          have hm2 : -10 ≤ min t (f + 10) ∧ min t (f + 10) ≤ 4000 := by omega
          generalize min r (l + 3) = r2 at p1 hm1 ⊢
          generalize min t (f + 10) = t2 at p3 hm2 ⊢
          refine (whichMeets_any _ _ _ ps l r2 f t2 wd hod.ts (Nat.le_refl _)).mono ?_
          rintro e we ⟨q, rfl, b⟩
          replace c00 := keepB b c00; replace c01 := keepB b c01; replace p0 := keepB b p0; replace p1 := keepB b p1; replace p2 := keepB b p2; replace p3 := keepB b p3
          have hoe := hod.kept (.of_below b (Nat.le_refl _))
          have hre := hrd.below b
          have hgre := grown_trans hgrd (grown_below b (some g))
          have hze := b.size
          have Ho := Lib.hid hoe
          clear b hod hrd hgrd hoe
          by_cases hq : q < 0
          · go_wp2_with (at_builtin; refine wpList_appendT SlPart _ rfl (.tmp 47) (.tmp 49) rfl [l, r2, f, t2] _ rfl (w.heap.size + 1) _ _ rfl rfl Ho.out ⟨rfl, i64_4 ⟨by omega, by omega⟩ ⟨by omega, by omega⟩ ⟨by omega, by omega⟩ ⟨by omega, by omega⟩⟩ (by omega) (by omega) (by omega) ?_; intro v' wf ho3 hg3)
            have bA := hg3.below
            replace c00 := keepC bA (by first | (simp; done) | (simp; omega)) c00; replace c01 := keepC bA (by first | (simp; done) | (simp; omega)) c01
            have hrf := hre.grew hg3 (by omega)
            have hgrf := grown_then hgre hg3.below (by omega)
            have hzf := hg3.size
            clear p0 p1 p2 p3 hg3 bA hre hgre
            go_roundw
            case rel => exact ⟨n1, k' + 5, _, by go_num, by rw [List.length_append]; simp; omega, by omega, hrf, hgrf, ho3, by omega, c00, c01⟩
            case measure => simp [intOf]
          · clear p0 p1 p2 p3
            go_wp2
            go_roundw
            case rel => exact ⟨n1, k' + 5, _, by go_num, by omega, by omega, hre, hgre, Ho.out, by omega, c00, c01⟩
            case measure => simp [intOf]
      · obtain rfl : n = 0 := by omega
        go_wp2
        go_ret
        exact ⟨_, ps, k', rfl, ho.base (by omega), by omega, hr, by omega, hgr⟩
end Go.Proofs.Ytodbgkflakfjpaa
