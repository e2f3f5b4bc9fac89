/-
  Lemmas and contracts of single functions of this program, used by the proofs of its laws: what each call returns and what becomes of memory. Conditions: the hypotheses of each theorem.
-/
import Derived.Test.YtodbgkflakfjpaaCutP
import Derived.Test.YtodbgkflakfjpaaDrawW
namespace Go.Proofs.Ytodbgkflakfjpaa
open Go.RowKit
attribute [local go_sem ↓] Go.wp_at_zero Go.wp_at_succ

set_option maxHeartbeats 1600000 in
theorem whole_any (W L : Int) (A : Option Addr) (n c : Nat) (w : World) :
    Calls Try.prog 53 #[.agg #[.int .i64 W, .int .i64 L, .slice A n c]] w fun e w' => e = .returned (.agg #[.int .i64 0, .int .i64 W, .int .i64 0, .int .i64 L]) ∧ Below w.heap.size w w' := by
  go_enter Try.func53, Try.ntmps53
  go_wp2
  refine bodyPost_ret (v := .agg #[.int .i64 0, .int .i64 W, .int .i64 0, .int .i64 L]) (by simp [results, Try.results53, go_sem]) rfl ⟨rfl, ?_⟩
  exact ((Below.refl _ _).alloc (Nat.le_refl _) _).alloc (by simp) _
set_option maxRecDepth 100000 in
set_option maxHeartbeats 4000000 in
theorem CutReel_any (lo hi : Nat) (W L : Int) (v : Value) (ds : List (List Int)) (l r f t : Int) (w : World) (h : TS w lo hi 5 v ds) (hhi : hi ≤ w.heap.size) (hok : (vReel W L ds && insB l r f t W L) = true) :
    Calls Try.prog 50 #[.agg #[.int .i64 W, .int .i64 L, v], .agg #[.int .i64 l, .int .i64 r, .int .i64 f, .int .i64 t]] w fun e w' => ∃ v', e = .returned (.agg #[.int .i64 (r - l), .int .i64 (t - f), v']) ∧ OwnT w' w.heap.size 68 5 v' (cutDs ds [l, r, f, t]) ∧ Below w.heap.size w w' := by
  obtain ⟨A, c, rfl, hc, hm⟩ := h.form
  rw [Bool.and_eq_true] at hok
  have hrg := vReel_rng hok.1
  have hin := insB_true hok.2
  have HD := Lib.hid ((vReel_iff.1 hok.1).2.2.2.2.2)
  have hdl : ds.length ≤ 16 := (vReel_iff.1 hok.1).2.2.2.2.1
  have HOK := Lib.hid (show (vReel W L ds && insB l r f t W L) = true by rw [hok.1, hok.2]; rfl)
  clear hok
  have Hs := Lib.hid (show ∃ w1, w1 = (((w.alloc (.cells #[.int .i64 W, .int .i64 L, .slice A ds.length c] 30)).alloc (.cells #[.int .i64 l, .int .i64 r, .int .i64 f, .int .i64 t] 58)).alloc (.cells #[.int .i64 0, .int .i64 0, .slice none 0 0] 30)) ∧ Below w.heap.size w w1 ∧ w1.cell? ⟨w.heap.size, 0, none⟩ = some (.int .i64 W) ∧ w1.cell? ⟨w.heap.size, 1, none⟩ = some (.int .i64 L) ∧ w1.cell? ⟨w.heap.size, 2, none⟩ = some (.slice A ds.length c) ∧ w1.cell? ⟨w.heap.size + 1, 0, none⟩ = some (.int .i64 l) ∧ w1.cell? ⟨w.heap.size + 1, 1, none⟩ = some (.int .i64 r) ∧ w1.cell? ⟨w.heap.size + 1, 2, none⟩ = some (.int .i64 f) ∧ w1.cell? ⟨w.heap.size + 1, 3, none⟩ = some (.int .i64 t) ∧ w1.cell? ⟨w.heap.size + 1 + 1, 0, none⟩ = some (.int .i64 0) ∧ w1.cell? ⟨w.heap.size + 1 + 1, 1, none⟩ = some (.int .i64 0) ∧ w1.cell? ⟨w.heap.size + 1 + 1, 2, none⟩ = some (.slice none 0 0) ∧ w1.frozen? ⟨w.heap.size + 1 + 1, 0, none⟩ = false ∧ w1.frozen? ⟨w.heap.size + 1 + 1, 1, none⟩ = false ∧ w1.frozen? ⟨w.heap.size + 1 + 1, 2, none⟩ = false ∧ TS w1 lo hi 5 (.slice A ds.length c) ds ∧ w.heap.size + 1 + 1 < w1.heap.size from by
    have hb : Below w.heap.size w (((w.alloc (.cells #[.int .i64 W, .int .i64 L, .slice A ds.length c] 30)).alloc (.cells #[.int .i64 l, .int .i64 r, .int .i64 f, .int .i64 t] 58)).alloc (.cells #[.int .i64 0, .int .i64 0, .slice none 0 0] 30)) := (((Below.refl _ _).alloc (Nat.le_refl _) _).alloc (by simp) _).alloc (by simp; omega) _
    exact ⟨_, rfl, hb, by go_simp, by go_simp, by go_simp, by go_simp, by go_simp, by go_simp, by go_simp, by go_simp, by go_simp, by go_simp, by go_simp, by go_simp, by go_simp, h.below hb hhi, by simp⟩)
  go_enter Try.func50, Try.ntmps50
  go_wp2_with (fail)
  obtain ⟨w1, hw1, hb0, c00, c01, c02, c10, c11, c12, c13, c20, c21, c22, f20, f21, f22, hT0, hz⟩ := Hs.out
  rw [← hw1]
  clear hw1 Hs
  refine (ValidPart_any lo hi W L _ ds l r f t w1 hT0 (by omega)).mono ?_
  rw [HOK.out]
  rintro e x1 ⟨rfl, bx1⟩
  replace c00 := keepB bx1 c00; replace c01 := keepB bx1 c01; replace c02 := keepB bx1 c02; replace c10 := keepB bx1 c10; replace c11 := keepB bx1 c11; replace c12 := keepB bx1 c12; replace c13 := keepB bx1 c13; replace c20 := keepB bx1 c20; replace c21 := keepB bx1 c21; replace c22 := keepB bx1 c22
  replace f20 := keepF bx1 (by first | (simp; done) | (simp; omega)) f20; replace f21 := keepF bx1 (by first | (simp; done) | (simp; omega)) f21; replace f22 := keepF bx1 (by first | (simp; done) | (simp; omega)) f22
  have h1 := hT0.below bx1 (by omega)
  have hz1 := bx1.size
  have hb1 := hb0.trans (bx1.mono (by omega))
  clear bx1 hT0 hb0
  have g1 : wrap64 (r - l) = r - l := w64 (by omega)
  have g2 : wrap64 (t - f) = t - f := w64 (by omega)
  have hbd : Below x1.heap.size x1 (x1.alloc (.cells #[.int .i64 (r - l), .int .i64 (t - f), .slice none 0 0] 30)) := (Below.refl _ _).alloc (Nat.le_refl _) _
  have x_c02 := keepB hbd c02
  go_wp2
  clear hbd x_c02
  clear g1 g2
  obtain ⟨x2, hw1⟩ : ∃ x2, x2 = x1.alloc (.cells #[.int .i64 (r - l), .int .i64 (t - f), .slice none 0 0] 30) := ⟨_, rfl⟩
  have q0 : x2.cell? ⟨x1.heap.size, 0, none⟩ = some (.int .i64 (r - l)) := by rw [hw1]; go_simp
  have q1 : x2.cell? ⟨x1.heap.size, 1, none⟩ = some (.int .i64 (t - f)) := by rw [hw1]; go_simp
  have q2 : x2.cell? ⟨x1.heap.size, 2, none⟩ = some (.slice none 0 0) := by rw [hw1]; go_simp
  have bq : Below x1.heap.size x1 x2 := by rw [hw1]; exact (Below.refl _ _).alloc (Nat.le_refl _) _
  have zq : x1.heap.size < x2.heap.size := by rw [hw1]; simp
  have HZq := Lib.hid (show x2.heap.size = x1.heap.size + 1 by rw [hw1]; simp)
  have fq0 : x2.frozen? ⟨x1.heap.size, 0, none⟩ = false := by rw [hw1]; go_simp
  have fq1 : x2.frozen? ⟨x1.heap.size, 1, none⟩ = false := by rw [hw1]; go_simp
  have fq2 : x2.frozen? ⟨x1.heap.size, 2, none⟩ = false := by rw [hw1]; go_simp
  have Hq := Lib.hid (show x2.heap[x1.heap.size]? = some (.cells #[.int .i64 (r - l), .int .i64 (t - f), .slice none 0 0] 30) by rw [hw1]; exact heap_alloc_new x1 _)
  rw [← hw1]
  clear hw1
  have hz2 := HZq.out
  have bq0 : Below x1.heap.size x1 x2 := bq
  go_loopw [27] (fun i wr => ∃ (k : Nat) (u : Value), k ≤ ds.length ∧ i = .int .i64 k ∧ Below x1.heap.size x1 wr ∧ OwnT wr (x1.heap.size + 1) 68 5 u (cutDs (ds.take k) [l, r, f, t]) ∧ wr.cell? ⟨x1.heap.size, 0, none⟩ = some (.int .i64 (r - l)) ∧ wr.cell? ⟨x1.heap.size, 1, none⟩ = some (.int .i64 (t - f)) ∧ wr.cell? ⟨x1.heap.size, 2, none⟩ = some u ∧ wr.frozen? ⟨x1.heap.size, 2, none⟩ = false ∧ x1.heap.size + 1 ≤ wr.heap.size) (fun i _ => ds.length - (intOf i).toNat)
  case atStart => exact ⟨0, _, by omega, rfl, bq0, OwnT.nil _ _ _ _, q0, q1, q2, fq2, by omega⟩
  case round =>
    clear q0 q1 q2 fq2
    obtain ⟨k, u, hk, rfl, bw, ho, q0, q1, q2, fq2, hzr⟩ := hrel
    by_cases hlt : k < ds.length
    · replace c00 := keepB bw c00; replace c01 := keepB bw c01; replace c02 := keepB bw c02; replace c10 := keepB bw c10; replace c11 := keepB bw c11; replace c12 := keepB bw c12; replace c13 := keepB bw c13
      obtain ⟨b, o, rfl, hb2, hb3, e0, e1, e2, e3, e4⟩ := (h1.below bw (by omega)).c5 hlt
      have Hst := Lib.hid (cutDs_succ (p := [l, r, f, t]) hlt)
      have hk0 : (0 : Int) ≤ (k : Int) := by omega
      have hk1 : (k : Int) < (ds.length : Int) := by omega
      go_wp2
      obtain ⟨wd, hw1⟩ : ∃ wd, wd = wr.alloc (.cells #[.int .i64 (gi (gr ds k) 0), .int .i64 (gi (gr ds k) 1), .int .i64 (gi (gr ds k) 2), .int .i64 (gi (gr ds k) 3), .int .i64 (gi (gr ds k) 4)] 68) := ⟨_, rfl⟩
      have d0 : wd.cell? ⟨wr.heap.size, 0, none⟩ = some (.int .i64 (gi (gr ds k) 0)) := by rw [hw1]; go_simp
      have d1 : wd.cell? ⟨wr.heap.size, 1, none⟩ = some (.int .i64 (gi (gr ds k) 1)) := by rw [hw1]; go_simp
      have d2 : wd.cell? ⟨wr.heap.size, 2, none⟩ = some (.int .i64 (gi (gr ds k) 2)) := by rw [hw1]; go_simp
      have d3 : wd.cell? ⟨wr.heap.size, 3, none⟩ = some (.int .i64 (gi (gr ds k) 3)) := by rw [hw1]; go_simp
      have d4 : wd.cell? ⟨wr.heap.size, 4, none⟩ = some (.int .i64 (gi (gr ds k) 4)) := by rw [hw1]; go_simp
      have bd : Below wr.heap.size wr wd := by rw [hw1]; exact (Below.refl _ _).alloc (Nat.le_refl _) _
      have zd : wr.heap.size < wd.heap.size := by rw [hw1]; simp
      rw [← hw1]
      clear hw1
      replace c00 := keepB bd c00; replace c01 := keepB bd c01; replace c02 := keepB bd c02; replace c10 := keepB bd c10; replace c11 := keepB bd c11; replace c12 := keepB bd c12; replace c13 := keepB bd c13; replace q0 := keepB bd q0; replace q1 := keepB bd q1; replace q2 := keepB bd q2
      replace fq2 := keepF bd (by first | (simp; done) | (simp; omega)) fq2
      have ho2 := ho.kept (.of_below bd (Nat.le_refl _))
      have hlo := ho.lt
      have bw2 := bw.trans (bd.mono (by omega))
      have hzd : wr.heap.size + 1 ≤ wd.heap.size := zd
      clear e0 e1 e2 e3 e4 ho bd bw zd
      go_region_held3 (fun w' => w'.cell? ⟨wr.heap.size, 0, none⟩ = some (.int .i64 (gi (gr ds k) 0)) ∧ w'.cell? ⟨wr.heap.size, 1, none⟩ = some (.int .i64 (gi (gr ds k) 1)) ∧ w'.cell? ⟨wr.heap.size, 2, none⟩ = some (.int .i64 (gi (gr ds k) 2)) ∧ w'.cell? ⟨wr.heap.size, 3, none⟩ = some (.int .i64 (gi (gr ds k) 3)) ∧ w'.cell? ⟨wr.heap.size, 4, none⟩ = some (.int .i64 (gi (gr ds k) 4)) ∧ w'.cell? ⟨w.heap.size + 1, 0, none⟩ = some (.int .i64 l) ∧ w'.cell? ⟨w.heap.size + 1, 1, none⟩ = some (.int .i64 r) ∧ w'.cell? ⟨w.heap.size + 1, 2, none⟩ = some (.int .i64 f) ∧ w'.cell? ⟨w.heap.size + 1, 3, none⟩ = some (.int .i64 t)) (first | go_keep | (go_split_ands; refine ⟨?_, ?_, ?_, ?_, ?_, ?_, ?_, ?_, ?_⟩ <;> first | exact keepB bx5 (by assumption) | exact keepB bx4 (by assumption) | exact keepB bx3 (by assumption) | exact keepB bx2 (by assumption) | exact keepB bx1 (by assumption))) (first | (go_at_call 79; refine (partOf_any _ _ _ _ _ _).mono ?_; rintro e x3 ⟨rfl, bx1⟩) | (go_at_call 78; refine (meet_any _ _ _ _ _ _ _ _ _).mono ?_; rintro e x4 ⟨rfl, bx2⟩))
      have by1 := of_drew bx1
      have hz3 := by1.size
      have hz4 := bx2.size
      replace c00 := keepB by1 c00; replace c01 := keepB by1 c01; replace c02 := keepB by1 c02; replace c10 := keepB by1 c10; replace c11 := keepB by1 c11; replace c12 := keepB by1 c12; replace c13 := keepB by1 c13; replace q0 := keepB by1 q0; replace q1 := keepB by1 q1; replace q2 := keepB by1 q2; replace d0 := keepB by1 d0; replace d1 := keepB by1 d1; replace d2 := keepB by1 d2; replace d3 := keepB by1 d3; replace d4 := keepB by1 d4
      replace fq2 := keepF by1 (by first | (simp; done) | (simp; omega)) fq2
      replace c00 := keepB bx2 c00; replace c01 := keepB bx2 c01; replace c02 := keepB bx2 c02; replace c10 := keepB bx2 c10; replace c11 := keepB bx2 c11; replace c12 := keepB bx2 c12; replace c13 := keepB bx2 c13; replace q0 := keepB bx2 q0; replace q1 := keepB bx2 q1; replace q2 := keepB bx2 q2; replace d0 := keepB bx2 d0; replace d1 := keepB bx2 d1; replace d2 := keepB bx2 d2; replace d3 := keepB bx2 d3; replace d4 := keepB bx2 d4
      replace fq2 := keepF bx2 (by first | (simp; done) | (simp; omega)) fq2
      have ho4 := (ho2.kept (.of_below by1 (Nat.le_refl _))).kept (.of_below bx2 (Nat.le_refl _))
      have bw4 := (bw2.trans (by1.mono (by omega))).trans (bx2.mono (by omega))
      clear bx1 by1 bx2 ho2 bw2
      obtain ⟨mt, hmt⟩ : ∃ mt, meetB (gi (gr ds k) 0) (gi (gr ds k) 1) (gi (gr ds k) 2) (gi (gr ds k) 3) l r f t = mt := ⟨_, rfl⟩
      rw [hmt]
      have HMT := Lib.hid (show mT (gr ds k) [l, r, f, t] = mt from hmt)
      clear hmt
      cases mt
      · simp only [Bool.not_false]
        go_wp2
        go_roundw
        case rel => exact ⟨k + 1, u, by omega, by go_num, bw4, by rw [Hst.out, HMT.out]; exact ho4, q0, q1, q2, fq2, by omega⟩
        case measure => simp [intOf]; omega
      · have hdk := HD.out _ (gr_mem hlt)
        unfold dOk at hdk
        simp only [Bool.and_eq_true, decide_eq_true_eq] at hdk
        have hdr := insB_true hdk.1
        have hdg := hdk.2
        have hlen : (cutDs (ds.take k) [l, r, f, t]).length ≤ 16 := by
          unfold cutDs
          rw [List.length_map]
          exact Nat.le_trans (List.length_filter_le _ _) (by rw [List.length_take]; omega)
        have HT := Lib.hid (show cutDs (ds.take (k + 1)) [l, r, f, t] = cutDs (ds.take k) [l, r, f, t] ++ [[max (gi (gr ds k) 0) l - l, min (gi (gr ds k) 1) r - l, max (gi (gr ds k) 2) f - f, min (gi (gr ds k) 3) t - f, gi (gr ds k) 4]] by rw [Hst.out, HMT.out]; rfl)
        have g1 : wrap64 (max (gi (gr ds k) 0) l - l) = max (gi (gr ds k) 0) l - l := w64 (by omega)
        have g2 : wrap64 (min (gi (gr ds k) 1) r - l) = min (gi (gr ds k) 1) r - l := w64 (by omega)
        have g3 : wrap64 (max (gi (gr ds k) 2) f - f) = max (gi (gr ds k) 2) f - f := w64 (by omega)
        have g4 : wrap64 (min (gi (gr ds k) 3) t - f) = min (gi (gr ds k) 3) t - f := w64 (by omega)
        have hi5 := i64_5 (a := max (gi (gr ds k) 0) l - l) (b := min (gi (gr ds k) 1) r - l) (c := max (gi (gr ds k) 2) f - f) (d := min (gi (gr ds k) 3) t - f) (e := gi (gr ds k) 4) ⟨by omega, by omega⟩ ⟨by omega, by omega⟩ ⟨by omega, by omega⟩ ⟨by omega, by omega⟩ ⟨by omega, by omega⟩
        have Ho := Lib.hid ho4
        have Hi5 := Lib.hid hi5
        clear ho4 hdk hdr hi5
        go_wp2_with (at_builtin; refine wpList_appendT SlDefect _ rfl (.tmp 37) (.tmp 73) rfl [max (gi (gr ds k) 0) l - l, min (gi (gr ds k) 1) r - l, max (gi (gr ds k) 2) f - f, min (gi (gr ds k) 3) t - f, gi (gr ds k) 4] _ rfl (x1.heap.size + 1) _ _ rfl rfl Ho.out ⟨rfl, Hi5.out⟩ (by omega) (by omega) (by omega) ?_; intro v' w9 ho9 hg9; obtain ⟨A9, c9, rfl, hc9, hm9⟩ := ho9.form; have bA := hg9.below; replace c00 := keepC bA (by first | (simp; done) | (simp; omega)) c00; replace c01 := keepC bA (by first | (simp; done) | (simp; omega)) c01; replace c02 := keepC bA (by first | (simp; done) | (simp; omega)) c02; replace c10 := keepC bA (by first | (simp; done) | (simp; omega)) c10; replace c11 := keepC bA (by first | (simp; done) | (simp; omega)) c11; replace c12 := keepC bA (by first | (simp; done) | (simp; omega)) c12; replace c13 := keepC bA (by first | (simp; done) | (simp; omega)) c13; replace q0 := keepC bA (by first | (simp; done) | (simp; omega)) q0; replace q1 := keepC bA (by first | (simp; done) | (simp; omega)) q1; replace q2 := keepC bA (by first | (simp; done) | (simp; omega)) q2; replace fq2 := keepF bA (by first | (simp; done) | (simp; omega)) fq2)
        have bw9 := bw4.trans (hg9.below.mono (by omega))
        have hz9 := hg9.size
        clear g1 g2 g3 g4 d0 d1 d2 d3 d4 bA hg9
        go_wp2
        go_roundw
        case rel =>
          refine ⟨k + 1, _, by omega, by go_num, bw9.setCell (Nat.le_refl _) _, by rw [HT.out]; exact ho9.setBelow (by show x1.heap.size < _; omega) _, by go_simp, by go_simp, by go_simp, by go_simp, by simp only [World.setCell, Array.size_modify]; omega⟩
        case measure => simp [intOf]; omega
    · have He := Lib.hid (show k = ds.length by omega)
      obtain ⟨A9, c9, rfl, hc9, hm9⟩ := ho.form
      have Ho := Lib.hid ho
      clear ho
      replace c20 := keepB bw c20; replace c21 := keepB bw c21; replace c22 := keepB bw c22
      replace f20 := keepF bw (by first | (simp; done) | (simp; omega)) f20; replace f21 := keepF bw (by first | (simp; done) | (simp; omega)) f21; replace f22 := keepF bw (by first | (simp; done) | (simp; omega)) f22
      go_wp2
      refine bodyPost_ret (v := .agg #[.int .i64 (r - l), .int .i64 (t - f), .slice A9 (cutDs (ds.take k) [l, r, f, t]).length c9]) (by simp [results, Try.results50, go_sem, *]) rfl ⟨_, rfl, ?_, ?_⟩
      · have h2 := ((Ho.out.setBelow (p := ⟨w.heap.size + 1 + 1, 0, none⟩) (by show w.heap.size + 1 + 1 < _; omega) (.int .i64 (r - l))).setBelow (p := ⟨w.heap.size + 1 + 1, 1, none⟩) (by show w.heap.size + 1 + 1 < _; omega) (.int .i64 (t - f))).setBelow (p := ⟨w.heap.size + 1 + 1, 2, none⟩) (by show w.heap.size + 1 + 1 < _; omega) (.slice A9 (cutDs (ds.take k) [l, r, f, t]).length c9)
        rw [He.out, List.take_length] at h2 ⊢
        exact h2.base (by omega)
      · exact (((hb1.trans (bw.mono (by omega))).setCell (by show w.heap.size ≤ w.heap.size + 1 + 1; omega) _).setCell (by show w.heap.size ≤ w.heap.size + 1 + 1; omega) _).setCell (by show w.heap.size ≤ w.heap.size + 1 + 1; omega) _
end Go.Proofs.Ytodbgkflakfjpaa
