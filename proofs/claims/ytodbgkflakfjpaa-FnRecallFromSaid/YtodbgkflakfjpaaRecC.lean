/-
  Lemmas and contracts of single functions of this program, used by the proofs of its laws: what each call returns and what becomes of memory. Conditions: the hypotheses of each theorem.
-/
import Derived.Test.YtodbgkflakfjpaaRecB
namespace Go.Proofs.Ytodbgkflakfjpaa
open Go.RowKit
attribute [local go_sem ↓] Go.wp_at_zero Go.wp_at_succ

/-- one pass over a list of numbers -/
def fo (N : Nat → Bool) (xs l : List Int) : List Int := l.foldl (fun xs x => if N x.toNat && !inL xs x then xs ++ [x] else xs) xs
theorem fo_snoc (N : Nat → Bool) (xs l : List Int) (x : Int) : fo N xs (l ++ [x]) = if N x.toNat && !inL (fo N xs l) x then fo N xs l ++ [x] else fo N xs l := by
  unfold fo; rw [List.foldl_append]; rfl
theorem fo_sel (N b : Nat → Bool) (xs : List Int) : ∀ m, fo N xs (selL b m) = inn (fun n => N n && b n) xs m
  | 0 => rfl
  | m + 1 => by
    rw [selL_succ, inn]
    by_cases h : b m = true
    · rw [if_pos h, fo_snoc, fo_sel N b xs m, Int.toNat_natCast, h, Bool.and_true]
    · rw [if_neg h, fo_sel N b xs m]
      have : b m = false := by simpa using h
      rw [this, Bool.and_false, Bool.false_and]; rfl
theorem fo_pre {N : Nat → Bool} : ∀ (l xs : List Int), ∃ ys, fo N xs l = xs ++ ys ∧ ys.length ≤ l.length
  | [], xs => ⟨[], by simp [fo], by simp⟩
  | x :: t, xs => by
    have e : fo N xs (x :: t) = fo N (if N x.toNat && !inL xs x then xs ++ [x] else xs) t := rfl
    rw [e]
    split
    · obtain ⟨ys, h, hl⟩ := fo_pre t (xs ++ [x])
      exact ⟨x :: ys, by rw [h, List.append_assoc]; rfl, by simp; omega⟩
    · obtain ⟨ys, h, hl⟩ := fo_pre t xs
      exact ⟨ys, h, by simp; omega⟩
/-- an owned list of ints lies in no block of another element type -/
theorem own_apart {w : World} {base e e2 p : Nat} {v : Value} {xs : List Int} {cs : Array Value} (h : OwnI w base e v xs) (hp : w.heap[p]? = some (.cells cs e2)) (hne : e ≠ e2) : ∀ g, v.ownBlock = some g → ¬ p = g := fun g hg e1 => by
  obtain ⟨cur, hc⟩ := own_home h.1 hg
  rw [← e1, hp] at hc
  injection hc with hc
  injection hc with _ h2
  exact hne h2.symm
theorem cell_of_block0 {w : World} {b e j : Nat} {cs : Array Value} {v : Value} (h : w.heap[b]? = some (.cells cs e)) (hv : cs[j]? = some v) : w.cell? ⟨b, j, none⟩ = some v := by
  simp only [World.cell?, h]; exact hv
theorem nxt_eq {ps : List (List Int)} {a n : Nat} {W L : Int} (ha : pv (gr ps a) W L = true) (hn : pv (gr ps n) W L = true) : (if gi (gr ps a) 1 = gi (gr ps n) 0 ∨ gi (gr ps n) 1 = gi (gr ps a) 0 then decide (gi (gr ps a) 2 < gi (gr ps n) 3) && decide (gi (gr ps n) 2 < gi (gr ps a) 3) else if gi (gr ps a) 3 = gi (gr ps n) 2 ∨ gi (gr ps n) 3 = gi (gr ps a) 2 then decide (gi (gr ps a) 0 < gi (gr ps n) 1) && decide (gi (gr ps n) 0 < gi (gr ps a) 1) else false) = nxt ps a n := by
  have h1 := insB_true ha
  have h2 := insB_true hn
  unfold nxt neighB
  rw [Bool.eq_iff_iff]
  split
  · simp; omega
  · split
    · simp; omega
    · simp; omega
set_option maxRecDepth 100000 in
set_option maxHeartbeats 4000000 in
theorem RecallFrom_any (lo hi l2 h2 : Nat) (W L : Int) (v u : Value) (ds ps : List (List Int)) (i m : Int) (w : World) (h : TS w lo hi 5 v ds) (hhi : hi ≤ w.heap.size) (hp : TS w l2 h2 4 u ps) (hh2 : h2 ≤ w.heap.size) :
    Calls Try.prog 40 #[.agg #[.int .i64 W, .int .i64 L, v], u, .int .i64 i, .int .i64 m] w fun e w' => ∃ v', e = .returned v' ∧ OwnI w' w.heap.size 3 v' (rcL W L ds ps i m) ∧ Below w.heap.size w w' := by
  obtain ⟨A, c, rfl, hc, hm⟩ := h.form
  obtain ⟨B, c2, rfl, hc2, hm2⟩ := hp.form
  have Hs := Lib.hid (show ∃ w1, w1 = (w.alloc (.cells #[.int .i64 W, .int .i64 L, .slice A ds.length c] 30)) ∧ Below w.heap.size w w1 ∧ w1.cell? ⟨w.heap.size, 0, none⟩ = some (.int .i64 W) ∧ w1.cell? ⟨w.heap.size, 1, none⟩ = some (.int .i64 L) ∧ w1.cell? ⟨w.heap.size, 2, none⟩ = some (.slice A ds.length c) ∧ TS w1 lo hi 5 (.slice A ds.length c) ds ∧ TS w1 l2 h2 4 (.slice B ps.length c2) ps ∧ w.heap.size < w1.heap.size from by
    have hb : Below w.heap.size w (w.alloc (.cells #[.int .i64 W, .int .i64 L, .slice A ds.length c] 30)) := (Below.refl _ _).alloc (Nat.le_refl _) _
    exact ⟨_, rfl, hb, by go_simp, by go_simp, by go_simp, h.below hb hhi, hp.below hb hh2, by simp⟩)
  obtain ⟨R, hR⟩ : ∃ R, R = rcL W L ds ps i m := ⟨_, rfl⟩
  rw [← hR]
  have HR := Lib.hid hR
  clear hR
  go_enter Try.func40, Try.ntmps40
  go_wp2_with (fail)
  obtain ⟨w1, hw1, hb0, c00, c01, c02, hT0, hT1, hz⟩ := Hs.out
  rw [← hw1]
  clear hw1 Hs
  refine (ValidCuts_any lo hi l2 h2 W L _ _ ds ps w1 hT0 (by omega) hT1 (by omega)).mono ?_
  rintro e x0 ⟨rfl, bx1⟩
  replace c00 := keepB bx1 c00; replace c01 := keepB bx1 c01; replace c02 := keepB bx1 c02
  have hD := hT0.below bx1 (by omega)
  have hP := hT1.below bx1 (by omega)
  have hz1 := bx1.size
  have Hb := Lib.hid (hb0.trans (bx1.mono (Nat.le_of_lt hz)))
  clear hT0 hT1 h hp bx1 hb0
  cases hv : vCuts W L ds ps
  · have Hno := Lib.hid (show R = [] by rw [HR.out]; unfold rcL; rw [hv]; exact if_neg (by simp))
    go_wp2
    go_ret
    exact ⟨_, rfl, by rw [Hno.out]; exact OwnI.nil _ _ _, Hb.out⟩
  · have Hv := Lib.hid hv
    have hlp : ps.length ≤ 60 := (vCuts_iff.1 hv).2.1
    have HPV := Lib.hid (show ∀ j, j < ps.length → pv (gr ps j) W L = true from fun j hj => by
      have := (vCuts_iff.1 Hv.out).2.2 j hj
      unfold cutOk at this
      rw [Bool.and_eq_true] at this
      exact this.1)
    clear hv
    by_cases q1 : i < 0
    · have Hno := Lib.hid (show R = [] by rw [HR.out]; unfold rcL; exact if_neg (by omega))
      go_wp2
      go_ret
      exact ⟨_, rfl, by rw [Hno.out]; exact OwnI.nil _ _ _, Hb.out⟩
    · by_cases q2 : (ps.length : Int) ≤ i
      · have Hno := Lib.hid (show R = [] by rw [HR.out]; unfold rcL; exact if_neg (by omega))
        go_wp2
        go_ret
        exact ⟨_, rfl, by rw [Hno.out]; exact OwnI.nil _ _ _, Hb.out⟩
      · obtain ⟨j0, rfl⟩ : ∃ j : Nat, i = (j : Int) := ⟨i.toNat, by omega⟩
        have hj0 : j0 < ps.length := by omega
        have hj1 : (j0 : Int) < (ps.length : Int) := by omega
        have hj2 : ((ps.length : Int) ≤ (j0 : Int)) ↔ False := ⟨fun h => by omega, False.elim⟩
        have hj3 : ((j0 : Int) < 0) ↔ False := ⟨fun h => by omega, False.elim⟩
        obtain ⟨bf, hbf⟩ : ∃ bf : Nat → Bool, bf = fun n => decide (m < worstL ds (gr ps n)) := ⟨_, rfl⟩
        obtain ⟨st, hst⟩ : ∃ st : Nat → List Int, st = stp bf (nxt ps) ps.length (j0 : Int) := ⟨_, rfl⟩
        have Hyes := Lib.hid (show R = selL (fun n => inL (st ps.length) (n : Int)) ps.length by rw [HR.out, hst, hbf]; unfold rcL; exact if_pos ⟨Hv.out, by omega, by omega⟩)
        have Hst0 := Lib.hid (show st 0 = [(j0 : Int)] by rw [hst]; rfl)
        have HstS := Lib.hid (show ∀ k, k < (st k).length → st (k + 1) = inn (fun n => nxt ps (gi (st k) k).toNat n && bf n) (st k) ps.length from fun k hk => by rw [hst] at hk ⊢; rw [stp, if_pos hk])
        have HstE := Lib.hid (show ∀ k, (st k).length ≤ k → k ≤ ps.length → st ps.length = st k from fun k hk hl => by
          rw [hst] at hk
          have h5 := stp_stay hk (ps.length - k)
          rw [show k + (ps.length - k) = ps.length by omega] at h5
          rw [hst]; exact h5)
        have HstF := Lib.hid (show ∀ k, Fair ps.length (st k) from fun k => by rw [hst]; exact stp_fair (by omega) (by omega) k)
        have HBL := Lib.hid (show brL W L ds ps m = selL bf ps.length by unfold brL; rw [if_pos Hv.out, hbf])
        clear hst hbf q1 q2
        go_wp2_with (fail)
        refine (BadRolls_any lo hi l2 h2 W L _ _ ds ps m x0 hD (by omega) hP (by omega)).mono ?_
        rw [HBL.out]
        rintro e x1 ⟨vb, rfl, hob, bx1⟩
        replace c00 := keepB bx1 c00; replace c01 := keepB bx1 c01; replace c02 := keepB bx1 c02
        replace hP := hP.below bx1 (by omega)
        have hz2 := bx1.size
        have Hb1 := Lib.hid (Hb.out.trans (bx1.mono (by omega)))
        have hbl := selL_len bf ps.length
        have HBR := Lib.hid (show ∀ x ∈ selL bf ps.length, 0 ≤ x ∧ x < ps.length from fun x hx => by
          obtain ⟨j, hj, _, rfl⟩ := selL_mem.1 hx
          exact ⟨by omega, by omega⟩)
        have HFO := Lib.hid (show ∀ (N : Nat → Bool) xs, fo N xs (selL bf ps.length) = inn (fun n => N n && bf n) xs ps.length from fun N xs => fo_sel N bf xs ps.length)
        obtain ⟨bl, hbl2⟩ : ∃ bl, bl = selL bf ps.length := ⟨_, rfl⟩
        rw [← hbl2] at hob hbl HBR HFO
        clear hbl2 hD bx1
        have hBI := hob.ints
        obtain ⟨A2, c5, rfl, hc5, hm5⟩ := hob.form
        clear hob
        go_wp2
        obtain ⟨y0, hy0⟩ : ∃ y0, y0 = x1.alloc (.cells #[.int .i64 (j0 : Int)] 3) := ⟨_, rfl⟩
        have by0 : Below x1.heap.size x1 y0 := by rw [hy0]; exact (Below.refl _ _).alloc (Nat.le_refl _) _
        have ho0 : OwnI y0 x1.heap.size 3 (.slice (some ⟨x1.heap.size, 0, none⟩) 1 1) (st 0) := by rw [hy0, Hst0.out]; exact lit_own x1 3 [(j0 : Int)] (by simp) (fun x hx => by rw [List.mem_singleton.1 hx]; exact ⟨by omega, by omega⟩)
        have hz3 : x1.heap.size < y0.heap.size := by rw [hy0]; simp
        rw [← hy0]
        clear hy0 hj2 hj3
        replace c00 := keepB by0 c00; replace c01 := keepB by0 c01; replace c02 := keepB by0 c02
        replace hP := hP.below by0 (by omega)
        replace hBI := hBI.below by0 (Nat.le_refl _)
        have Hb2 := Lib.hid (Hb1.out.trans (by0.mono (by omega)))
        clear by0
        go_loopw [10, 11] (fun v i wr => ∃ k : Nat, k ≤ ps.length ∧ i = .int .i64 k ∧ OwnI wr x1.heap.size 3 v (st k) ∧ Below x1.heap.size y0 wr) (fun _ i _ => ps.length - (intOf i).toNat)
        case atStart => exact ⟨0, by omega, rfl, ho0, Below.refl _ _⟩
        case round =>
          obtain ⟨k, hk, rfl, ho, bw⟩ := hrel
          obtain ⟨wo, rfl⟩ : ∃ wo : World, wo = wr := ⟨_, rfl⟩
          have hzr := bw.size
          have hfl := (HstF.out k).len
          have hoI := ho.ints
          obtain ⟨A3, c3, rfl, hc3, hm3⟩ := ho.form
          obtain ⟨xs, hxs⟩ : ∃ xs, xs = st k := ⟨_, rfl⟩
          rw [← hxs] at ho hoI hfl hc3 ⊢
          by_cases hlt : k < xs.length
          · have hfr := (HstF.out k).rg (gi xs k) (by rw [← hxs, gi_eq hlt]; exact List.getElem_mem hlt)
            obtain ⟨a, ha⟩ : ∃ a : Nat, (a : Int) = gi xs k := ⟨(gi xs k).toNat, Int.toNat_of_nonneg hfr.1⟩
            have HS := Lib.hid (show st (k + 1) = fo (nxt ps a) xs bl by rw [HFO.out, HstS.out k (by rw [← hxs]; exact hlt), ← hxs, ← ha, Int.toNat_natCast])
            have hap : a < ps.length := by omega
            have hkp : k < ps.length := by omega
            have hPr := hP.below bw (by omega)
            obtain ⟨g, o, rfl, _, _, hcf, _⟩ := hoI.cell hlt
            rw [← ha] at hcf
            obtain ⟨b, o2, rfl, _, _, e0, e1, e2, e3⟩ := hPr.c4 hap
            have ha0 : (0 : Int) ≤ (a : Int) := by omega
            have ha1 : (a : Int) < (ps.length : Int) := by omega
            have hk0 : (0 : Int) ≤ (k : Int) := by omega
            have hk1 : (k : Int) < (xs.length : Int) := by omega
            have Ho := Lib.hid ho
            clear ha hfr hxs ho hoI hPr
            go_wp2
            obtain ⟨wd, hw1⟩ : ∃ wd, wd = wo.alloc (.cells #[.int .i64 (gi (gr ps a) 0), .int .i64 (gi (gr ps a) 1), .int .i64 (gi (gr ps a) 2), .int .i64 (gi (gr ps a) 3)] 58) := ⟨_, rfl⟩
            have p0 : wd.cell? ⟨wo.heap.size, 0, none⟩ = some (.int .i64 (gi (gr ps a) 0)) := by rw [hw1]; go_simp
            have p1 : wd.cell? ⟨wo.heap.size, 1, none⟩ = some (.int .i64 (gi (gr ps a) 1)) := by rw [hw1]; go_simp
            have p2 : wd.cell? ⟨wo.heap.size, 2, none⟩ = some (.int .i64 (gi (gr ps a) 2)) := by rw [hw1]; go_simp
            have p3 : wd.cell? ⟨wo.heap.size, 3, none⟩ = some (.int .i64 (gi (gr ps a) 3)) := by rw [hw1]; go_simp
            have bp : Below wo.heap.size wo wd := by rw [hw1]; exact (Below.refl _ _).alloc (Nat.le_refl _) _
            have zp : wo.heap.size < wd.heap.size := by rw [hw1]; simp
            have Hp := Lib.hid (show wd.heap[wo.heap.size]? = some (.cells #[.int .i64 (gi (gr ps a) 0), .int .i64 (gi (gr ps a) 1), .int .i64 (gi (gr ps a) 2), .int .i64 (gi (gr ps a) 3)] 58) by rw [hw1]; exact heap_alloc_new wo _)
            rw [← hw1]
            clear hw1
            have hbw := bw.trans (bp.mono (by omega))
            have Hox := Lib.hid (Ho.out.kept (.of_below bp (Nat.le_refl _)))
            clear e0 e1 e2 e3 bp hcf Ho p0 p1 p2 p3
            go_loopw [10, 50] (fun v i wr => ∃ q : Nat, q ≤ bl.length ∧ i = .int .i64 q ∧ OwnI wr x1.heap.size 3 v (fo (nxt ps a) xs (bl.take q)) ∧ Below x1.heap.size y0 wr ∧ Hid (wr.heap[wo.heap.size]? = some (.cells #[.int .i64 (gi (gr ps a) 0), .int .i64 (gi (gr ps a) 1), .int .i64 (gi (gr ps a) 2), .int .i64 (gi (gr ps a) 3)] 58)) ∧ wo.heap.size < wr.heap.size) (fun _ i _ => bl.length - (intOf i).toNat)
            case atStart => exact ⟨0, by omega, rfl, Hox.out, hbw, Hp, zp⟩
            case round =>
              obtain ⟨q, hq, rfl, ho, bw, Hp, zp⟩ := hrel
              by_cases hlt2 : q < bl.length
              · have hbr := HBR.out (gi bl q) (by rw [gi_eq hlt2]; exact List.getElem_mem hlt2)
                obtain ⟨n, hn⟩ : ∃ n : Nat, (n : Int) = gi bl q := ⟨(gi bl q).toNat, Int.toNat_of_nonneg hbr.1⟩
                have hnp : n < ps.length := by omega
                have HF := Lib.hid (show fo (nxt ps a) xs (bl.take (q + 1)) = if nxt ps a n && !inL (fo (nxt ps a) xs (bl.take q)) (n : Int) then fo (nxt ps a) xs (bl.take q) ++ [(n : Int)] else fo (nxt ps a) xs (bl.take q) by rw [take_gi hlt2, fo_snoc, ← hn, Int.toNat_natCast])
                have hfl2 : (fo (nxt ps a) xs (bl.take q)).length ≤ 200 := by
                  obtain ⟨zs, h1, h2⟩ := fo_pre (N := nxt ps a) (bl.take q) xs
                  rw [h1, List.length_append]
                  rw [List.length_take] at h2
                  omega
                obtain ⟨ys, hys⟩ : ∃ ys, ys = fo (nxt ps a) xs (bl.take q) := ⟨_, rfl⟩
                rw [← hys] at HF hfl2 ho
                clear hys
                obtain ⟨g, o, rfl, _, _, hcb, _⟩ := (hBI.below bw (by omega)).cell hlt2
                rw [← hn] at hcb
                clear hn hbr
                have hPr := hP.below bw (by omega)
                obtain ⟨f0, f1, f2, f3⟩ := hPr.c4' hnp
                have p0 : wr.cell? ⟨wo.heap.size, 0, none⟩ = some (.int .i64 (gi (gr ps a) 0)) := cell_of_block0 Hp.out rfl
                have p1 : wr.cell? ⟨wo.heap.size, 1, none⟩ = some (.int .i64 (gi (gr ps a) 1)) := cell_of_block0 Hp.out rfl
                have p2 : wr.cell? ⟨wo.heap.size, 2, none⟩ = some (.int .i64 (gi (gr ps a) 2)) := cell_of_block0 Hp.out rfl
                have p3 : wr.cell? ⟨wo.heap.size, 3, none⟩ = some (.int .i64 (gi (gr ps a) 3)) := cell_of_block0 Hp.out rfl
                have hn0 : (0 : Int) ≤ (n : Int) := by omega
                have hn1 : (n : Int) < (ps.length : Int) := by omega
                have hq0 : (0 : Int) ≤ (q : Int) := by omega
                have hq1 : (q : Int) < (bl.length : Int) := by omega
                have HNX := Lib.hid (nxt_eq (a := a) (n := n) (HPV.out a hap) (HPV.out n hnp))
                have HI := Lib.hid ho.ints
                have HAP := Lib.hid (own_apart ho Hp.out (by decide))
                have Ho := Lib.hid ho
                clear hPr ho
                go_wp2
                cases hnb : nxt ps a n
                · have HE := Lib.hid (show fo (nxt ps a) xs (bl.take (q + 1)) = ys by rw [HF.out, hnb]; rfl)
                  have HNB := Lib.hid (HNX.out.trans hnb)
                  clear hnb
                  refine wp_region_held_drew (S := fun w' => w'.cell? ⟨wo.heap.size, 0, none⟩ = some (.int .i64 (gi (gr ps a) 0)) ∧ w'.cell? ⟨wo.heap.size, 1, none⟩ = some (.int .i64 (gi (gr ps a) 1)) ∧ w'.cell? ⟨wo.heap.size, 2, none⟩ = some (.int .i64 (gi (gr ps a) 2)) ∧ w'.cell? ⟨wo.heap.size, 3, none⟩ = some (.int .i64 (gi (gr ps a) 3)) ∧ w'.cell? ⟨b, o2 + n * 4, none⟩ = some (.int .i64 (gi (gr ps n) 0)) ∧ w'.cell? ⟨b, o2 + n * 4 + 1, none⟩ = some (.int .i64 (gi (gr ps n) 1)) ∧ w'.cell? ⟨b, o2 + n * 4 + 2, none⟩ = some (.int .i64 (gi (gr ps n) 2)) ∧ w'.cell? ⟨b, o2 + n * 4 + 3, none⟩ = some (.int .i64 (gi (gr ps n) 3))) (by kernel_rfl) ?_ (fun hHeld => ?_)
                  · (first | (try dsimp only); go_keep | (go_split_ands; refine ⟨?_, ?_, ?_, ?_, ?_, ?_, ?_, ?_⟩ <;> first | exact keepB bx5 (by assumption) | exact keepB bx4 (by assumption) | exact keepB bx3 (by assumption) | exact keepB bx2 (by assumption) | exact keepB bx1 (by assumption) | exact keepO bo5 (by first | (simp; done) | (simp; omega)) (by assumption) | exact keepO bo4 (by first | (simp; done) | (simp; omega)) (by assumption) | exact keepO bo3 (by first | (simp; done) | (simp; omega)) (by assumption) | exact keepO bo2 (by first | (simp; done) | (simp; omega)) (by assumption) | exact keepO bo1 (by first | (simp; done) | (simp; omega)) (by assumption) | exact keepW bg2 (by first | (simp; done) | (simp; omega)) (by assumption) | exact keepW bg1 (by first | (simp; done) | (simp; omega)) (by assumption) | assumption))
                  refine wpAnyH_take (i := 0) (oi := ⟨some 54, _, _, _, _, _⟩) (v := _) rfl (by kernel_rfl) (by kernel_rfl) (by kernel_rfl) (fun _ _ _ h => h) (Or.inl ⟨by kernel_rfl, by intro w hSw; (try dsimp only at hSw); go_simp; try with_reducible rfl⟩) (by assumption) ?_
                  simp only [Act.put, List.setIfInBounds_toArray, List.set_cons_zero, List.set_cons_succ]
                  refine wpAnyH_take (i := 1) (oi := ⟨some 55, _, _, _, _, _⟩) (v := _) rfl (by kernel_rfl) (by kernel_rfl) (by kernel_rfl) (fun _ _ _ h => h) (Or.inl ⟨by kernel_rfl, by intro w hSw; (try dsimp only at hSw); go_simp; try with_reducible rfl⟩) (by assumption) ?_
                  simp only [Act.put, List.setIfInBounds_toArray, List.set_cons_zero, List.set_cons_succ]
                  refine wpAnyH_take (i := 2) (oi := ⟨some 56, _, _, _, _, _⟩) (v := _) rfl (by kernel_rfl) (by kernel_rfl) (by kernel_rfl) (fun _ _ _ h => h) (Or.inl ⟨by kernel_rfl, by intro w hSw; (try dsimp only at hSw); go_simp; try with_reducible rfl⟩) (by assumption) ?_
                  simp only [Act.put, List.setIfInBounds_toArray, List.set_cons_zero, List.set_cons_succ]
                  refine wpAnyH_take (i := 3) (oi := ⟨some 57, _, _, _, _, _⟩) (v := _) rfl (by kernel_rfl) (by kernel_rfl) (by kernel_rfl) (fun _ _ _ h => h) (Or.inl ⟨by kernel_rfl, by intro w hSw; (try dsimp only at hSw); go_simp; try with_reducible rfl⟩) (by assumption) ?_
                  simp only [Act.put, List.setIfInBounds_toArray, List.set_cons_zero, List.set_cons_succ]
                  refine wpAnyH_take (i := 4) (oi := ⟨some 58, _, _, _, _, _⟩) (v := _) rfl (by kernel_rfl) (by kernel_rfl) (by kernel_rfl) (fun _ _ _ h => h) (Or.inl ⟨by kernel_rfl, by intro w hSw; (try dsimp only at hSw); go_simp; try with_reducible rfl⟩) (by assumption) ?_
                  simp only [Act.put, List.setIfInBounds_toArray, List.set_cons_zero, List.set_cons_succ]
                  refine wpAnyH_ready (rs := [5]) (by kernel_rfl) (by simp) ?_
                  refine AllReadyH.cons (o := ⟨some 59, _, _, _, _, _⟩) rfl (fun K hK => ?_) AllReadyH.nil
                  go_simp
                  go_at_call 87
                  refine (nextTo_any _ _ _ _ _ _ _ _ _).mono ?_
                  rw [HNB.out]
                  rintro e x9 ⟨rfl, bx1⟩
                  go_wp2_with fail
                  refine hK.out _ _ ?_ (fun hHeld2 => ?_)
                  · (first | (try dsimp only); go_keep | (go_split_ands; refine ⟨?_, ?_, ?_, ?_, ?_, ?_, ?_, ?_⟩ <;> first | exact keepB bx5 (by assumption) | exact keepB bx4 (by assumption) | exact keepB bx3 (by assumption) | exact keepB bx2 (by assumption) | exact keepB bx1 (by assumption) | exact keepO bo5 (by first | (simp; done) | (simp; omega)) (by assumption) | exact keepO bo4 (by first | (simp; done) | (simp; omega)) (by assumption) | exact keepO bo3 (by first | (simp; done) | (simp; omega)) (by assumption) | exact keepO bo2 (by first | (simp; done) | (simp; omega)) (by assumption) | exact keepO bo1 (by first | (simp; done) | (simp; omega)) (by assumption) | exact keepW bg2 (by first | (simp; done) | (simp; omega)) (by assumption) | exact keepW bg1 (by first | (simp; done) | (simp; omega)) (by assumption) | assumption))
                  clear hK K hHeld
                  have hHeld := hHeld2
                  clear hHeld2
                  try simp only [Act.put, List.setIfInBounds_toArray, List.set_cons_zero, List.set_cons_succ]
                  refine wpAnyH_take (i := 6) (oi := ⟨some 60, _, _, _, _, _⟩) (v := _) rfl (by kernel_rfl) (by kernel_rfl) (by kernel_rfl) (fun _ _ _ h => h) (Or.inl ⟨by kernel_rfl, by intro w hSw; (try dsimp only at hSw); go_simp; try with_reducible rfl⟩) (by assumption) ?_
                  simp only [Act.put, List.setIfInBounds_toArray, List.set_cons_zero, List.set_cons_succ]
                  refine wpAnyH_take (i := 7) (oi := ⟨some 61, _, _, _, _, _⟩) (v := undef) rfl (by kernel_rfl) (by kernel_rfl) (by kernel_rfl) (fun _ _ _ h => h) (Or.inr ⟨by kernel_rfl, rfl⟩) (by assumption) ?_
                  simp only [Act.put, List.setIfInBounds_toArray, List.set_cons_zero, List.set_cons_succ]
                  refine wpAnyH_take (i := 8) (oi := ⟨some 62, _, _, _, _, _⟩) (v := undef) rfl (by kernel_rfl) (by kernel_rfl) (by kernel_rfl) (fun _ _ _ h => h) (Or.inr ⟨by kernel_rfl, rfl⟩) (by assumption) ?_
                  simp only [Act.put, List.setIfInBounds_toArray, List.set_cons_zero, List.set_cons_succ]
                  refine wpAnyH_take (i := 9) (oi := ⟨some 63, _, _, _, _, _⟩) (v := undef) rfl (by kernel_rfl) (by kernel_rfl) (by kernel_rfl) (fun _ _ _ h => h) (Or.inr ⟨by kernel_rfl, rfl⟩) (by assumption) ?_
                  simp only [Act.put, List.setIfInBounds_toArray, List.set_cons_zero, List.set_cons_succ]
                  refine wpAnyH_take (i := 10) (oi := ⟨some 64, _, _, _, _, _⟩) (v := undef) rfl (by kernel_rfl) (by kernel_rfl) (by kernel_rfl) (fun _ _ _ h => h) (Or.inr ⟨by kernel_rfl, rfl⟩) (by assumption) ?_
                  simp only [Act.put, List.setIfInBounds_toArray, List.set_cons_zero, List.set_cons_succ]
                  refine wpAnyH_take (i := 11) (oi := ⟨some 65, _, _, _, _, _⟩) (v := _) rfl (by kernel_rfl) (by kernel_rfl) (by kernel_rfl) (fun _ _ _ h => h) (Or.inl ⟨by kernel_rfl, by intro w hSw; (try dsimp only at hSw); go_simp; try with_reducible rfl⟩) (by assumption) ?_
                  simp only [Act.put, List.setIfInBounds_toArray, List.set_cons_zero, List.set_cons_succ]
                  refine wpAnyH_done (by kernel_rfl) ?_ _
                  have bd := of_drew bx1
                  clear f0 f1 f2 f3 p0 p1 p2 p3 bx1
                  go_wp2
                  go_roundw
                  case rel => exact ⟨q + 1, by omega, by go_num, by rw [HE.out]; exact Ho.out.kept (.of_below bd (Nat.le_refl _)), bw.trans (bd.mono (by omega)), (bd.block _ zp).trans Hp.out, by have := bd.size; omega⟩
                  case measure => simp [intOf]; omega
                · have HNB := Lib.hid (HNX.out.trans hnb)
                  have HCX := Lib.hid (contains_any _ _ _ ys (n : Int) _ HI.out)
                  cases hin : inL ys (n : Int)
                  · have HE := Lib.hid (show fo (nxt ps a) xs (bl.take (q + 1)) = ys ++ [(n : Int)] by rw [HF.out, hnb, hin]; rfl)
                    have HIN := Lib.hid hin
                    clear hnb hin
                    refine wp_region_held_drew (S := fun w' => w'.cell? ⟨wo.heap.size, 0, none⟩ = some (.int .i64 (gi (gr ps a) 0)) ∧ w'.cell? ⟨wo.heap.size, 1, none⟩ = some (.int .i64 (gi (gr ps a) 1)) ∧ w'.cell? ⟨wo.heap.size, 2, none⟩ = some (.int .i64 (gi (gr ps a) 2)) ∧ w'.cell? ⟨wo.heap.size, 3, none⟩ = some (.int .i64 (gi (gr ps a) 3)) ∧ w'.cell? ⟨b, o2 + n * 4, none⟩ = some (.int .i64 (gi (gr ps n) 0)) ∧ w'.cell? ⟨b, o2 + n * 4 + 1, none⟩ = some (.int .i64 (gi (gr ps n) 1)) ∧ w'.cell? ⟨b, o2 + n * 4 + 2, none⟩ = some (.int .i64 (gi (gr ps n) 2)) ∧ w'.cell? ⟨b, o2 + n * 4 + 3, none⟩ = some (.int .i64 (gi (gr ps n) 3))) (by kernel_rfl) ?_ (fun hHeld => ?_)
                    · (first | (try dsimp only); go_keep | (go_split_ands; refine ⟨?_, ?_, ?_, ?_, ?_, ?_, ?_, ?_⟩ <;> first | exact keepB bx5 (by assumption) | exact keepB bx4 (by assumption) | exact keepB bx3 (by assumption) | exact keepB bx2 (by assumption) | exact keepB bx1 (by assumption) | exact keepO bo5 (by first | (simp; done) | (simp; omega)) (by assumption) | exact keepO bo4 (by first | (simp; done) | (simp; omega)) (by assumption) | exact keepO bo3 (by first | (simp; done) | (simp; omega)) (by assumption) | exact keepO bo2 (by first | (simp; done) | (simp; omega)) (by assumption) | exact keepO bo1 (by first | (simp; done) | (simp; omega)) (by assumption) | exact keepW bg2 (by first | (simp; done) | (simp; omega)) (by assumption) | exact keepW bg1 (by first | (simp; done) | (simp; omega)) (by assumption) | assumption))
                    refine wpAnyH_take (i := 0) (oi := ⟨some 54, _, _, _, _, _⟩) (v := _) rfl (by kernel_rfl) (by kernel_rfl) (by kernel_rfl) (fun _ _ _ h => h) (Or.inl ⟨by kernel_rfl, by intro w hSw; (try dsimp only at hSw); go_simp; try with_reducible rfl⟩) (by assumption) ?_
                    simp only [Act.put, List.setIfInBounds_toArray, List.set_cons_zero, List.set_cons_succ]
                    refine wpAnyH_take (i := 1) (oi := ⟨some 55, _, _, _, _, _⟩) (v := _) rfl (by kernel_rfl) (by kernel_rfl) (by kernel_rfl) (fun _ _ _ h => h) (Or.inl ⟨by kernel_rfl, by intro w hSw; (try dsimp only at hSw); go_simp; try with_reducible rfl⟩) (by assumption) ?_
                    simp only [Act.put, List.setIfInBounds_toArray, List.set_cons_zero, List.set_cons_succ]
                    refine wpAnyH_take (i := 2) (oi := ⟨some 56, _, _, _, _, _⟩) (v := _) rfl (by kernel_rfl) (by kernel_rfl) (by kernel_rfl) (fun _ _ _ h => h) (Or.inl ⟨by kernel_rfl, by intro w hSw; (try dsimp only at hSw); go_simp; try with_reducible rfl⟩) (by assumption) ?_
                    simp only [Act.put, List.setIfInBounds_toArray, List.set_cons_zero, List.set_cons_succ]
                    refine wpAnyH_take (i := 3) (oi := ⟨some 57, _, _, _, _, _⟩) (v := _) rfl (by kernel_rfl) (by kernel_rfl) (by kernel_rfl) (fun _ _ _ h => h) (Or.inl ⟨by kernel_rfl, by intro w hSw; (try dsimp only at hSw); go_simp; try with_reducible rfl⟩) (by assumption) ?_
                    simp only [Act.put, List.setIfInBounds_toArray, List.set_cons_zero, List.set_cons_succ]
                    refine wpAnyH_take (i := 4) (oi := ⟨some 58, _, _, _, _, _⟩) (v := _) rfl (by kernel_rfl) (by kernel_rfl) (by kernel_rfl) (fun _ _ _ h => h) (Or.inl ⟨by kernel_rfl, by intro w hSw; (try dsimp only at hSw); go_simp; try with_reducible rfl⟩) (by assumption) ?_
                    simp only [Act.put, List.setIfInBounds_toArray, List.set_cons_zero, List.set_cons_succ]
                    refine wpAnyH_ready (rs := [5]) (by kernel_rfl) (by simp) ?_
                    refine AllReadyH.cons (o := ⟨some 59, _, _, _, _, _⟩) rfl (fun K hK => ?_) AllReadyH.nil
                    go_simp
                    go_at_call 87
                    refine (nextTo_any _ _ _ _ _ _ _ _ _).mono ?_
                    rw [HNB.out]
                    rintro e x9 ⟨rfl, bx1⟩
                    go_wp2_with fail
                    refine hK.out _ _ ?_ (fun hHeld2 => ?_)
                    · (first | (try dsimp only); go_keep | (go_split_ands; refine ⟨?_, ?_, ?_, ?_, ?_, ?_, ?_, ?_⟩ <;> first | exact keepB bx5 (by assumption) | exact keepB bx4 (by assumption) | exact keepB bx3 (by assumption) | exact keepB bx2 (by assumption) | exact keepB bx1 (by assumption) | exact keepO bo5 (by first | (simp; done) | (simp; omega)) (by assumption) | exact keepO bo4 (by first | (simp; done) | (simp; omega)) (by assumption) | exact keepO bo3 (by first | (simp; done) | (simp; omega)) (by assumption) | exact keepO bo2 (by first | (simp; done) | (simp; omega)) (by assumption) | exact keepO bo1 (by first | (simp; done) | (simp; omega)) (by assumption) | exact keepW bg2 (by first | (simp; done) | (simp; omega)) (by assumption) | exact keepW bg1 (by first | (simp; done) | (simp; omega)) (by assumption) | assumption))
                    clear hK K hHeld
                    have hHeld := hHeld2
                    clear hHeld2
                    try simp only [Act.put, List.setIfInBounds_toArray, List.set_cons_zero, List.set_cons_succ]
                    refine wpAnyH_take (i := 6) (oi := ⟨some 60, _, _, _, _, _⟩) (v := _) rfl (by kernel_rfl) (by kernel_rfl) (by kernel_rfl) (fun _ _ _ h => h) (Or.inl ⟨by kernel_rfl, by intro w hSw; (try dsimp only at hSw); go_simp; try with_reducible rfl⟩) (by assumption) ?_
                    simp only [Act.put, List.setIfInBounds_toArray, List.set_cons_zero, List.set_cons_succ]
                    refine wpAnyH_take (i := 7) (oi := ⟨some 61, _, _, _, _, _⟩) (v := _) rfl (by kernel_rfl) (by kernel_rfl) (by kernel_rfl) (fun _ _ _ h => h) (Or.inl ⟨by kernel_rfl, by intro w hSw; (try dsimp only at hSw); go_simp; try with_reducible rfl⟩) (by assumption) ?_
                    simp only [Act.put, List.setIfInBounds_toArray, List.set_cons_zero, List.set_cons_succ]
                    refine wpAnyH_take (i := 8) (oi := ⟨some 62, _, _, _, _, _⟩) (v := _) rfl (by kernel_rfl) (by kernel_rfl) (by kernel_rfl) (fun _ _ _ h => h) (Or.inl ⟨by kernel_rfl, by intro w hSw; (try dsimp only at hSw); go_simp; try with_reducible rfl⟩) (by assumption) ?_
                    simp only [Act.put, List.setIfInBounds_toArray, List.set_cons_zero, List.set_cons_succ]
                    refine wpAnyH_ready (rs := [9]) (by kernel_rfl) (by simp) ?_
                    refine AllReadyH.cons (o := ⟨some 63, _, _, _, _, _⟩) rfl (fun K hK => ?_) AllReadyH.nil
                    go_simp
                    go_at_call 88
                    refine (contains_any _ _ _ ys (n : Int) x9 ((HI.out.drewN 1).below bx1 (by simp))).mono ?_
                    rw [HIN.out]
                    rintro e x8 ⟨rfl, rfl⟩
                    go_wp2_with fail
                    refine hK.out _ _ ?_ (fun hHeld2 => ?_)
                    · (first | (try dsimp only); go_keep | (go_split_ands; refine ⟨?_, ?_, ?_, ?_, ?_, ?_, ?_, ?_⟩ <;> first | exact keepB bx5 (by assumption) | exact keepB bx4 (by assumption) | exact keepB bx3 (by assumption) | exact keepB bx2 (by assumption) | exact keepB bx1 (by assumption) | exact keepO bo5 (by first | (simp; done) | (simp; omega)) (by assumption) | exact keepO bo4 (by first | (simp; done) | (simp; omega)) (by assumption) | exact keepO bo3 (by first | (simp; done) | (simp; omega)) (by assumption) | exact keepO bo2 (by first | (simp; done) | (simp; omega)) (by assumption) | exact keepO bo1 (by first | (simp; done) | (simp; omega)) (by assumption) | exact keepW bg2 (by first | (simp; done) | (simp; omega)) (by assumption) | exact keepW bg1 (by first | (simp; done) | (simp; omega)) (by assumption) | assumption))
                    clear hK K hHeld
                    have hHeld := hHeld2
                    clear hHeld2
                    try simp only [Act.put, List.setIfInBounds_toArray, List.set_cons_zero, List.set_cons_succ]
                    refine wpAnyH_take (i := 10) (oi := ⟨some 64, _, _, _, _, _⟩) (v := _) rfl (by kernel_rfl) (by kernel_rfl) (by kernel_rfl) (fun _ _ _ h => h) (Or.inl ⟨by kernel_rfl, by intro w hSw; (try dsimp only at hSw); go_simp; try with_reducible rfl⟩) (by assumption) ?_
                    simp only [Act.put, List.setIfInBounds_toArray, List.set_cons_zero, List.set_cons_succ]
                    refine wpAnyH_take (i := 11) (oi := ⟨some 65, _, _, _, _, _⟩) (v := _) rfl (by kernel_rfl) (by kernel_rfl) (by kernel_rfl) (fun _ _ _ h => h) (Or.inl ⟨by kernel_rfl, by intro w hSw; (try dsimp only at hSw); go_simp; try with_reducible rfl⟩) (by assumption) ?_
                    simp only [Act.put, List.setIfInBounds_toArray, List.set_cons_zero, List.set_cons_succ]
                    refine wpAnyH_done (by kernel_rfl) ?_ _
                    have bd := of_drew bx1
                    have hzd := bd.size
                    have hox := Ho.out.kept (.of_below bd (Nat.le_refl _))
                    have HB2 := Lib.hid ((bd.block _ zp).trans Hp.out)
                    clear f0 f1 f2 f3 p0 p1 p2 p3 bx1
                    go_wp2_with (at_builtin; refine wpList_appendI SlI _ rfl (.tmp 66) (.tmp 68) rfl _ x1.heap.size _ _ rfl rfl hox ⟨by omega, by omega⟩ (by omega) (by omega) ?_; intro v' w3 ho3 hg3)
                    go_roundw
                    case rel => exact ⟨q + 1, by omega, by go_num, by rw [HE.out]; exact ho3, (bw.trans (bd.mono (by omega))).trans hg3.below, (hg3.other _ (by omega) fun e => HAP.out _ e.symm rfl).trans HB2.out, by have := hg3.size; omega⟩
                    case measure => simp [intOf]; omega
                  · have HE := Lib.hid (show fo (nxt ps a) xs (bl.take (q + 1)) = ys by rw [HF.out, hnb, hin]; rfl)
                    have HIN := Lib.hid hin
                    clear hnb hin
                    refine wp_region_held_drew (S := fun w' => w'.cell? ⟨wo.heap.size, 0, none⟩ = some (.int .i64 (gi (gr ps a) 0)) ∧ w'.cell? ⟨wo.heap.size, 1, none⟩ = some (.int .i64 (gi (gr ps a) 1)) ∧ w'.cell? ⟨wo.heap.size, 2, none⟩ = some (.int .i64 (gi (gr ps a) 2)) ∧ w'.cell? ⟨wo.heap.size, 3, none⟩ = some (.int .i64 (gi (gr ps a) 3)) ∧ w'.cell? ⟨b, o2 + n * 4, none⟩ = some (.int .i64 (gi (gr ps n) 0)) ∧ w'.cell? ⟨b, o2 + n * 4 + 1, none⟩ = some (.int .i64 (gi (gr ps n) 1)) ∧ w'.cell? ⟨b, o2 + n * 4 + 2, none⟩ = some (.int .i64 (gi (gr ps n) 2)) ∧ w'.cell? ⟨b, o2 + n * 4 + 3, none⟩ = some (.int .i64 (gi (gr ps n) 3))) (by kernel_rfl) ?_ (fun hHeld => ?_)
                    · (first | (try dsimp only); go_keep | (go_split_ands; refine ⟨?_, ?_, ?_, ?_, ?_, ?_, ?_, ?_⟩ <;> first | exact keepB bx5 (by assumption) | exact keepB bx4 (by assumption) | exact keepB bx3 (by assumption) | exact keepB bx2 (by assumption) | exact keepB bx1 (by assumption) | exact keepO bo5 (by first | (simp; done) | (simp; omega)) (by assumption) | exact keepO bo4 (by first | (simp; done) | (simp; omega)) (by assumption) | exact keepO bo3 (by first | (simp; done) | (simp; omega)) (by assumption) | exact keepO bo2 (by first | (simp; done) | (simp; omega)) (by assumption) | exact keepO bo1 (by first | (simp; done) | (simp; omega)) (by assumption) | exact keepW bg2 (by first | (simp; done) | (simp; omega)) (by assumption) | exact keepW bg1 (by first | (simp; done) | (simp; omega)) (by assumption) | assumption))
                    refine wpAnyH_take (i := 0) (oi := ⟨some 54, _, _, _, _, _⟩) (v := _) rfl (by kernel_rfl) (by kernel_rfl) (by kernel_rfl) (fun _ _ _ h => h) (Or.inl ⟨by kernel_rfl, by intro w hSw; (try dsimp only at hSw); go_simp; try with_reducible rfl⟩) (by assumption) ?_
                    simp only [Act.put, List.setIfInBounds_toArray, List.set_cons_zero, List.set_cons_succ]
                    refine wpAnyH_take (i := 1) (oi := ⟨some 55, _, _, _, _, _⟩) (v := _) rfl (by kernel_rfl) (by kernel_rfl) (by kernel_rfl) (fun _ _ _ h => h) (Or.inl ⟨by kernel_rfl, by intro w hSw; (try dsimp only at hSw); go_simp; try with_reducible rfl⟩) (by assumption) ?_
                    simp only [Act.put, List.setIfInBounds_toArray, List.set_cons_zero, List.set_cons_succ]
                    refine wpAnyH_take (i := 2) (oi := ⟨some 56, _, _, _, _, _⟩) (v := _) rfl (by kernel_rfl) (by kernel_rfl) (by kernel_rfl) (fun _ _ _ h => h) (Or.inl ⟨by kernel_rfl, by intro w hSw; (try dsimp only at hSw); go_simp; try with_reducible rfl⟩) (by assumption) ?_
                    simp only [Act.put, List.setIfInBounds_toArray, List.set_cons_zero, List.set_cons_succ]
                    refine wpAnyH_take (i := 3) (oi := ⟨some 57, _, _, _, _, _⟩) (v := _) rfl (by kernel_rfl) (by kernel_rfl) (by kernel_rfl) (fun _ _ _ h => h) (Or.inl ⟨by kernel_rfl, by intro w hSw; (try dsimp only at hSw); go_simp; try with_reducible rfl⟩) (by assumption) ?_
                    simp only [Act.put, List.setIfInBounds_toArray, List.set_cons_zero, List.set_cons_succ]
                    refine wpAnyH_take (i := 4) (oi := ⟨some 58, _, _, _, _, _⟩) (v := _) rfl (by kernel_rfl) (by kernel_rfl) (by kernel_rfl) (fun _ _ _ h => h) (Or.inl ⟨by kernel_rfl, by intro w hSw; (try dsimp only at hSw); go_simp; try with_reducible rfl⟩) (by assumption) ?_
                    simp only [Act.put, List.setIfInBounds_toArray, List.set_cons_zero, List.set_cons_succ]
                    refine wpAnyH_ready (rs := [5]) (by kernel_rfl) (by simp) ?_
                    refine AllReadyH.cons (o := ⟨some 59, _, _, _, _, _⟩) rfl (fun K hK => ?_) AllReadyH.nil
                    go_simp
                    go_at_call 87
                    refine (nextTo_any _ _ _ _ _ _ _ _ _).mono ?_
                    rw [HNB.out]
                    rintro e x9 ⟨rfl, bx1⟩
                    go_wp2_with fail
                    refine hK.out _ _ ?_ (fun hHeld2 => ?_)
                    · (first | (try dsimp only); go_keep | (go_split_ands; refine ⟨?_, ?_, ?_, ?_, ?_, ?_, ?_, ?_⟩ <;> first | exact keepB bx5 (by assumption) | exact keepB bx4 (by assumption) | exact keepB bx3 (by assumption) | exact keepB bx2 (by assumption) | exact keepB bx1 (by assumption) | exact keepO bo5 (by first | (simp; done) | (simp; omega)) (by assumption) | exact keepO bo4 (by first | (simp; done) | (simp; omega)) (by assumption) | exact keepO bo3 (by first | (simp; done) | (simp; omega)) (by assumption) | exact keepO bo2 (by first | (simp; done) | (simp; omega)) (by assumption) | exact keepO bo1 (by first | (simp; done) | (simp; omega)) (by assumption) | exact keepW bg2 (by first | (simp; done) | (simp; omega)) (by assumption) | exact keepW bg1 (by first | (simp; done) | (simp; omega)) (by assumption) | assumption))
                    clear hK K hHeld
                    have hHeld := hHeld2
                    clear hHeld2
                    try simp only [Act.put, List.setIfInBounds_toArray, List.set_cons_zero, List.set_cons_succ]
                    refine wpAnyH_take (i := 6) (oi := ⟨some 60, _, _, _, _, _⟩) (v := _) rfl (by kernel_rfl) (by kernel_rfl) (by kernel_rfl) (fun _ _ _ h => h) (Or.inl ⟨by kernel_rfl, by intro w hSw; (try dsimp only at hSw); go_simp; try with_reducible rfl⟩) (by assumption) ?_
                    simp only [Act.put, List.setIfInBounds_toArray, List.set_cons_zero, List.set_cons_succ]
                    refine wpAnyH_take (i := 7) (oi := ⟨some 61, _, _, _, _, _⟩) (v := _) rfl (by kernel_rfl) (by kernel_rfl) (by kernel_rfl) (fun _ _ _ h => h) (Or.inl ⟨by kernel_rfl, by intro w hSw; (try dsimp only at hSw); go_simp; try with_reducible rfl⟩) (by assumption) ?_
                    simp only [Act.put, List.setIfInBounds_toArray, List.set_cons_zero, List.set_cons_succ]
                    refine wpAnyH_take (i := 8) (oi := ⟨some 62, _, _, _, _, _⟩) (v := _) rfl (by kernel_rfl) (by kernel_rfl) (by kernel_rfl) (fun _ _ _ h => h) (Or.inl ⟨by kernel_rfl, by intro w hSw; (try dsimp only at hSw); go_simp; try with_reducible rfl⟩) (by assumption) ?_
                    simp only [Act.put, List.setIfInBounds_toArray, List.set_cons_zero, List.set_cons_succ]
                    refine wpAnyH_ready (rs := [9]) (by kernel_rfl) (by simp) ?_
                    refine AllReadyH.cons (o := ⟨some 63, _, _, _, _, _⟩) rfl (fun K hK => ?_) AllReadyH.nil
                    go_simp
                    go_at_call 88
                    refine (contains_any _ _ _ ys (n : Int) x9 ((HI.out.drewN 1).below bx1 (by simp))).mono ?_
                    rw [HIN.out]
                    rintro e x8 ⟨rfl, rfl⟩
                    go_wp2_with fail
                    refine hK.out _ _ ?_ (fun hHeld2 => ?_)
                    · (first | (try dsimp only); go_keep | (go_split_ands; refine ⟨?_, ?_, ?_, ?_, ?_, ?_, ?_, ?_⟩ <;> first | exact keepB bx5 (by assumption) | exact keepB bx4 (by assumption) | exact keepB bx3 (by assumption) | exact keepB bx2 (by assumption) | exact keepB bx1 (by assumption) | exact keepO bo5 (by first | (simp; done) | (simp; omega)) (by assumption) | exact keepO bo4 (by first | (simp; done) | (simp; omega)) (by assumption) | exact keepO bo3 (by first | (simp; done) | (simp; omega)) (by assumption) | exact keepO bo2 (by first | (simp; done) | (simp; omega)) (by assumption) | exact keepO bo1 (by first | (simp; done) | (simp; omega)) (by assumption) | exact keepW bg2 (by first | (simp; done) | (simp; omega)) (by assumption) | exact keepW bg1 (by first | (simp; done) | (simp; omega)) (by assumption) | assumption))
                    clear hK K hHeld
                    have hHeld := hHeld2
                    clear hHeld2
                    try simp only [Act.put, List.setIfInBounds_toArray, List.set_cons_zero, List.set_cons_succ]
                    refine wpAnyH_take (i := 10) (oi := ⟨some 64, _, _, _, _, _⟩) (v := _) rfl (by kernel_rfl) (by kernel_rfl) (by kernel_rfl) (fun _ _ _ h => h) (Or.inl ⟨by kernel_rfl, by intro w hSw; (try dsimp only at hSw); go_simp; try with_reducible rfl⟩) (by assumption) ?_
                    simp only [Act.put, List.setIfInBounds_toArray, List.set_cons_zero, List.set_cons_succ]
                    refine wpAnyH_take (i := 11) (oi := ⟨some 65, _, _, _, _, _⟩) (v := _) rfl (by kernel_rfl) (by kernel_rfl) (by kernel_rfl) (fun _ _ _ h => h) (Or.inl ⟨by kernel_rfl, by intro w hSw; (try dsimp only at hSw); go_simp; try with_reducible rfl⟩) (by assumption) ?_
                    simp only [Act.put, List.setIfInBounds_toArray, List.set_cons_zero, List.set_cons_succ]
                    refine wpAnyH_done (by kernel_rfl) ?_ _
                    have bd := of_drew bx1
                    clear f0 f1 f2 f3 p0 p1 p2 p3 bx1
                    go_wp2
                    go_roundw
                    case rel => exact ⟨q + 1, by omega, by go_num, by rw [HE.out]; exact Ho.out.kept (.of_below bd (Nat.le_refl _)), bw.trans (bd.mono (by omega)), (bd.block _ zp).trans Hp.out, by have := bd.size; omega⟩
                    case measure => simp [intOf]; omega
              · have He := Lib.hid (show fo (nxt ps a) xs (bl.take q) = st (k + 1) by rw [HS.out, List.take_of_length_le (by omega)])
                go_wp2
                go_roundw
                case rel => exact ⟨k + 1, by omega, by go_num, by rw [← He.out]; exact ho, bw⟩
                case measure => simp [intOf]; omega
          · have HRes := Lib.hid (show st ps.length = xs by rw [hxs]; exact HstE.out k (by rw [← hxs]; omega) hk)
            have HF := Lib.hid (show Fair ps.length xs by rw [hxs]; exact HstF.out k)
            have Ho := Lib.hid ho
            clear hxs ho hoI
            go_wp2_with (go_at_call 89; refine (sort_any x1.heap.size _ _ xs wo Ho.out (by omega) (by omega)).mono ?_; rintro e w3 ⟨rfl, ho3, b3⟩)
            go_ret
            exact ⟨_, rfl, by rw [Hyes.out, HRes.out, ← sort_fair HF.out]; exact ho3.base (by omega), Hb2.out.trans ((bw.trans b3).mono (by omega))⟩
end Go.Proofs.Ytodbgkflakfjpaa

