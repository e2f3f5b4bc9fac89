/-
  Lemmas and contracts of single functions of this program, used by the proofs of its laws: what each call returns and what becomes of memory. Conditions: the hypotheses of each theorem.
-/
import Derived.Test.YtodbgkflakfjpaaReelI
import Derived.Test.YtodbgkflakfjpaaReelD
import Derived.Test.YtodbgkflakfjpaaReelK
namespace Go.Proofs.Ytodbgkflakfjpaa
open Go.RowKit
attribute [local go_sem ↓] Go.wp_at_zero Go.wp_at_succ

def gb (bs : List Bool) (k : Nat) : Bool := bs.getD k false
theorem gb_eq {bs : List Bool} {k : Nat} (h : k < bs.length) : gb bs k = bs[k] := by simp [gb, h]
/-- a slice of bools that is read; that is owned -/
def Bls (w : World) (lo hi : Nat) (v : Value) (bs : List Bool) : Prop :=
  ∃ A c, v = .slice A bs.length c ∧ bs.length ≤ c ∧ c ≤ maxLen ∧ Rd w lo hi 1 A bs.length (bs.map .bool)
def OwnB (w : World) (base e : Nat) (v : Value) (bs : List Bool) : Prop := w.ownsRow base e 1 v bs.length (bs.map .bool)
theorem Bls.form {w : World} {lo hi : Nat} {v : Value} {bs : List Bool} (h : Bls w lo hi v bs) : ∃ A c, v = .slice A bs.length c ∧ bs.length ≤ c ∧ c ≤ 2 ^ 63 - 1 := by
  obtain ⟨A, c, h1, h2, h3, _⟩ := h; exact ⟨A, c, h1, h2, by unfold maxLen at h3; omega⟩
theorem Bls.kept {w w' : World} {lo hi : Nat} {v : Value} {bs : List Bool} (h : Bls w lo hi v bs) (hk : Kept lo hi w w') : Bls w' lo hi v bs := by
  obtain ⟨A, c, h1, h2, h3, h4⟩ := h; exact ⟨A, c, h1, h2, h3, h4.kept hk⟩
theorem Bls.below {w w' : World} {B lo hi : Nat} {v : Value} {bs : List Bool} (h : Bls w lo hi v bs) (hb : Below B w w') (hh : hi ≤ B) : Bls w' lo hi v bs := h.kept (.of_below hb hh)
theorem Bls.cell {w : World} {lo hi n c : Nat} {A : Option Addr} {bs : List Bool} (h : Bls w lo hi (.slice A n c) bs) {k : Nat} (hk : k < bs.length) :
    ∃ b o, A = some ⟨b, o, none⟩ ∧ lo ≤ b ∧ b < hi ∧ w.cell? ⟨b, o + k, none⟩ = some (.bool (gb bs k)) := by
  obtain ⟨A', c', e, _, _, _, hr⟩ := h
  injection e with e1 e2 e3
  subst e1
  obtain ⟨b, o, e, hl, hh, hc⟩ := hr (by omega)
  exact ⟨b, o, e, hl, hh, hc k _ (by simp [gb, hk])⟩
theorem OwnB.bls {w : World} {base e : Nat} {v : Value} {bs : List Bool} (h : OwnB w base e v bs) : Bls w base w.heap.size v bs := by
  obtain ⟨hl, hv⟩ := h
  rcases hv with ⟨rfl, hn⟩ | ⟨g, cap, cur, rfl, hb, hg, hc, hm, hs, ht⟩
  · have : bs = [] := List.eq_nil_of_length_eq_zero hn
    subst this
    exact ⟨none, 0, rfl, by simp, by simp [maxLen], ⟨by simp, fun h => absurd h (by simp)⟩⟩
  · refine ⟨some ⟨g, 0, none⟩, cap, rfl, hc, hm, ⟨by simp, fun _ => ⟨g, 0, rfl, hb, (Array.getElem?_eq_some_iff.1 hg).1, fun j u hu => ?_⟩⟩⟩
    have hj := (List.getElem?_eq_some_iff.1 hu).1
    simp only [World.cell?, hg, Nat.zero_add]
    rw [← ht] at hu
    rw [List.getElem?_take] at hu
    split at hu
    · simpa using hu
    · cases hu
theorem OwnB.kept {w w' : World} {base e : Nat} {v : Value} {bs : List Bool} (h : OwnB w base e v bs) (hk : Kept base w.heap.size w w') : OwnB w' base e v bs :=
  ownsRow_keptBlock h fun g hg => hk g (World.ownsRow.lt h g hg).1 (World.ownsRow.lt h g hg).2
theorem OwnB.at_ {w : World} {base e n c g : Nat} {bs : List Bool} (h : OwnB w base e (.slice (some ⟨g, 0, none⟩) n c) bs) {i : Nat} (hi : i < bs.length) :
    g < w.heap.size ∧ w.cell? ⟨g, i, none⟩ = some (.bool (gb bs i)) ∧ w.frozen? ⟨g, i, none⟩ = false ∧ ∀ x, OwnB (w.setCell ⟨g, i, none⟩ (.bool x)) base e (.slice (some ⟨g, 0, none⟩) n c) (bs.set i x) := by
  obtain ⟨b, o, e1, _, _, hc⟩ := h.bls.cell hi
  injection e1 with e2
  injection e2 with e3 e4
  subst e3; subst e4
  rw [Nat.zero_add] at hc
  have hn : n = bs.length := by
    obtain ⟨A, c', e1, _⟩ := h.bls.form
    injection e1
  subst hn
  refine ⟨(World.ownsRow.lt h g rfl).2, hc, World.ownsRow.frozenAt h i, fun x => ?_⟩
  have h1 := (World.ownsRow.stored h i (.bool x)).1
  unfold OwnB
  rw [List.length_set, List.map_set]
  exact h1
theorem wpList_makeB {P : Program} {t e : TypeId} (S : SlT P t e (.bool false) 1 1) {ops : Array Oper} {rest : List Oper} {o : Oper} {a : Act} {Q : Exit → Act → World → Prop} (w : World) (hgd : o.guard = none) (l c : Operand)
    (ho : o.op = Op.makeSlice t l c) (base n : Nat) (hl : a.eval l = .int .i64 (n : Int)) (hc : a.eval c = .int .i64 (n : Int)) (hn : n ≤ 1099511627776) (hb : base ≤ w.heap.size)
    (h : ∀ w', OwnB w' base e (.slice (some ⟨w.heap.size, 0, none⟩) n n) (List.replicate n false) → Below w.heap.size w w' → w.heap.size < w'.heap.size → wpList P ops Q rest (a.put o.dst (.slice (some ⟨w.heap.size, 0, none⟩) n n)) w') :
    wpList P ops Q (o :: rest) a w := by
  obtain ⟨i, hi, hz1, hz2, hz3⟩ := info_parts S.hi
  refine wpList_make_full w hgd l c t ho base e i _ 1 S.ht hi hz1 hz2 .i64 .i64 _ _ n hl hc rfl rfl (by rw [hz3]; omega) (by unfold maxLen; omega) hb fun w' k1 k2 => ?_
  refine h w' ?_ ((Below.refl _ _).grown k2 (Nat.le_refl _) fun k hk => by cases hk) (k1.lt _ rfl).2
  unfold OwnB
  rw [List.length_replicate, List.map_replicate]
  have e1 : (madeCells (Value.cells (.bool false)) (n * 1)).toList = List.replicate n (.bool false) := by
    rw [Nat.mul_one]; exact toList_madeCells_one _ _
  rw [← e1]; exact k1
theorem i64_2 {a b : Int} (ha : I64 a) (hb : I64 b) : ∀ n ∈ [a, b], I64 n := fun n hn => by
  rcases List.mem_cons.1 hn with rfl | hn
  · exact ha
  · rcases List.mem_cons.1 hn with rfl | hn
    · exact hb
    · cases hn
theorem mapr_set {n p : Nat} {f h : Nat → Bool} (hh : ∀ k, h k = if k = p then true else f k) : ((List.range n).map f).set p true = (List.range n).map h := by
  apply List.ext_getElem (by simp)
  intro j h1 h2
  simp only [List.getElem_set, List.getElem_map, List.getElem_range]
  rw [hh]
  by_cases e : p = j
  · subst e; simp
  · rw [if_neg e, if_neg (fun h' => e h'.symm)]
theorem gb_map {n k : Nat} {f : Nat → Bool} (h : k < n) : gb ((List.range n).map f) k = f k := by rw [gb_eq (by simpa using h)]; simp

/-- a defect that is too bad for some lanes -/
def dBad (l r m : Int) (d : List Int) : Bool := decide (m < gi d 4) && decide (gi d 0 < r) && decide (l < gi d 1)
def cov (l r m : Int) (k : Nat) (d : List Int) : Bool := dBad l r m d && (decide (gi d 2 ≤ k) && decide ((k : Int) < gi d 3))
/-- the places with one of the first j defects that is too bad -/
def bpP (n : Nat) (ds : List (List Int)) (l r m : Int) (j : Nat) : List Bool := (List.range n).map fun k => (ds.take j).any (cov l r m k)
theorem bpP_succ_no {n : Nat} {ds : List (List Int)} {l r m : Int} {j : Nat} (hj : j < ds.length) (h : dBad l r m (gr ds j) = false) : bpP n ds l r m (j + 1) = bpP n ds l r m j := by
  unfold bpP
  congr 1; funext k
  rw [take_gr hj, List.any_append]
  simp [cov, h]
/-- in the midst of a defect -/
def bpM (n : Nat) (ds : List (List Int)) (l r m : Int) (j p : Nat) : List Bool := (List.range n).map fun k => (ds.take j).any (cov l r m k) || (decide (gi (gr ds j) 2 ≤ k) && decide (k < p))
theorem bpM_start {n : Nat} {ds : List (List Int)} {l r m : Int} {j p : Nat} (h : (p : Int) = gi (gr ds j) 2) : bpM n ds l r m j p = bpP n ds l r m j := by
  unfold bpM bpP
  congr 1; funext k
  have : (decide (gi (gr ds j) 2 ≤ k) && decide (k < p)) = false := by simp; omega
  rw [this, Bool.or_false]
theorem bpM_end {n : Nat} {ds : List (List Int)} {l r m : Int} {j p : Nat} (hj : j < ds.length) (hb : dBad l r m (gr ds j) = true) (h : (p : Int) = gi (gr ds j) 3) : bpM n ds l r m j p = bpP n ds l r m (j + 1) := by
  unfold bpM bpP
  congr 1; funext k
  rw [take_gr hj, List.any_append]
  have : decide (k < p) = decide ((k : Int) < gi (gr ds j) 3) := by rw [← h]; simp
  simp [cov, hb, this]
theorem bpM_step {n : Nat} {ds : List (List Int)} {l r m : Int} {j p : Nat} (h : gi (gr ds j) 2 ≤ p) : (bpM n ds l r m j p).set p true = bpM n ds l r m j (p + 1) := by
  unfold bpM
  refine mapr_set fun k => ?_
  by_cases e : k = p
  · subst e; simp [h]
  · rw [if_neg e]
    congr 2
    simp; omega
theorem bpM_len (n : Nat) (ds : List (List Int)) (l r m : Int) (j p : Nat) : (bpM n ds l r m j p).length = n := by simp [bpM]
theorem bpP_len (n : Nat) (ds : List (List Int)) (l r m : Int) (j : Nat) : (bpP n ds l r m j).length = n := by simp [bpP]
theorem bpP_zero (n : Nat) (ds : List (List Int)) (l r m : Int) : bpP n ds l r m 0 = List.replicate n false := by
  unfold bpP; simp [List.map_const']
theorem vReel_d {W L : Int} {ds : List (List Int)} (h : vReel W L ds = true) {j : Nat} (hj : j < ds.length) : 0 ≤ gi (gr ds j) 2 ∧ gi (gr ds j) 2 < gi (gr ds j) 3 ∧ gi (gr ds j) 3 ≤ L := by
  have h1 := (vReel_iff.1 h).2.2.2.2.2 _ (gr_mem hj)
  unfold dOk at h1
  rw [Bool.and_eq_true] at h1
  have := insB_true h1.1
  omega
/-- the stretches that have ended before place k, and where the next one begins -/
def iS (bs : List Bool) : Nat → List (List Int) × Int
  | 0 => ([], 0)
  | k + 1 => if gb bs k = true then (if (iS bs k).2 < k then (iS bs k).1 ++ [[(iS bs k).2, (k : Int)]] else (iS bs k).1, (k : Int) + 1) else iS bs k
def stL (bs : List Bool) : List (List Int) := if (iS bs bs.length).2 < bs.length then (iS bs bs.length).1 ++ [[(iS bs bs.length).2, (bs.length : Int)]] else (iS bs bs.length).1
theorem iS_rng (bs : List Bool) : ∀ k, 0 ≤ (iS bs k).2 ∧ (iS bs k).2 ≤ k ∧ (iS bs k).1.length ≤ k
  | 0 => by simp [iS]
  | k + 1 => by
    have := iS_rng bs k
    rw [iS]
    split
    · refine ⟨by simp <;> omega, by simp <;> omega, ?_⟩
      show (if _ then _ else _ : List (List Int)).length ≤ _
      split
      · simp; omega
      · omega
    · omega
theorem iS_prev (bs : List Bool) (k : Nat) : (iS bs (k + 1)).2 < ((k + 1 : Nat) : Int) ↔ gb bs k = false := by
  have := iS_rng bs k
  rw [iS]
  cases h : gb bs k
  · simp; omega
  · simp
def gsL (W L : Int) (ds : List (List Int)) (l r m : Int) : List (List Int) := if vReel W L ds = true ∧ 0 ≤ l ∧ l < r ∧ r ≤ W then stL (bpP L.toNat ds l r m ds.length) else []
theorem stL_len (bs : List Bool) : (stL bs).length ≤ bs.length + 1 := by
  have := iS_rng bs bs.length
  unfold stL
  split
  · simp; omega
  · omega
theorem gsL_len (W L : Int) (ds : List (List Int)) (l r m : Int) : (gsL W L ds l r m).length ≤ 401 := by
  unfold gsL
  split
  · rename_i h
    have h1 := stL_len (bpP L.toNat ds l r m ds.length)
    rw [bpP_len] at h1
    have := vReel_rng h.1
    omega
  · simp
theorem SlB : SlT Try.prog 66 4 (.bool false) 1 1 := ⟨Try.underlying66, by kernel_rfl, rfl, by omega⟩
theorem SlStretch : SlT Try.prog 26 96 (.agg #[.int .i64 0, .int .i64 0]) 2 16 := ⟨Try.underlying26, by kernel_rfl, rfl, by omega⟩
set_option maxRecDepth 100000 in
set_option maxHeartbeats 1600000 in
theorem badPlaces_any (lo hi : Nat) (W L : Int) (v : Value) (ds : List (List Int)) (l r m : Int) (w : World) (h : TS w lo hi 5 v ds) (hhi : hi ≤ w.heap.size) (hv : vReel W L ds = true) :
    Calls Try.prog 71 #[.agg #[.int .i64 W, .int .i64 L, v], .int .i64 l, .int .i64 r, .int .i64 m] w fun e w' => ∃ v', e = .returned v' ∧ OwnB w' w.heap.size 4 v' (bpP L.toNat ds l r m ds.length) ∧ Below w.heap.size w w' := by
  obtain ⟨A, c, rfl, hc, hm⟩ := h.form
  have hrg := vReel_rng hv
  obtain ⟨n, rfl⟩ : ∃ n : Nat, L = (n : Int) := ⟨L.toNat, by omega⟩
  rw [Int.toNat_natCast]
  have HV := Lib.hid hv
  clear hv
  have Hs := Lib.hid (show ∃ w1, w1 = (w.alloc (.cells #[.int .i64 W, .int .i64 ((n : Int)), .slice A ds.length c] 30)) ∧ Below w.heap.size w w1 ∧ w1.cell? ⟨w.heap.size, 0, none⟩ = some (.int .i64 W) ∧ w1.cell? ⟨w.heap.size, 1, none⟩ = some (.int .i64 ((n : Int))) ∧ w1.cell? ⟨w.heap.size, 2, none⟩ = some (.slice A ds.length c) ∧ TS w1 lo hi 5 (.slice A ds.length c) ds ∧ w.heap.size < w1.heap.size from by
    have hb : Below w.heap.size w (w.alloc (.cells #[.int .i64 W, .int .i64 ((n : Int)), .slice A ds.length c] 30)) := (Below.refl _ _).alloc (Nat.le_refl _) _
    exact ⟨_, rfl, hb, by go_simp, by go_simp, by go_simp, h.below hb hhi, by simp⟩)
  go_enter Try.func71, Try.ntmps71
  go_wp2_with (at_make; refine wpList_makeB SlB _ rfl _ _ rfl (w.heap.size + 1) n rfl rfl (by omega) (by simp) ?_; intro y0 ho hb1 hs1; obtain ⟨w1, hw1, hb0, c00, c01, c02, hT0, hz⟩ := Hs.out; subst hw1; replace c00 := keepB hb1 c00; replace c01 := keepB hb1 c01; replace c02 := keepB hb1 c02; have hD := hT0.below hb1 (by simp; omega); have Hb := Lib.hid (hb0.trans (hb1.mono (by simp))); clear hT0 hb0 hb1 hz Hs h)
  replace ho : OwnB y0 (w.heap.size + 1) 4 (.slice (some ⟨w.heap.size + 1, 0, none⟩) n n) (List.replicate n false) := by simpa using ho
  replace hs1 : w.heap.size + 1 < y0.heap.size := by simpa using hs1
  rw [← bpP_zero n ds l r m] at ho
  go_loopw [19] (fun i wr => ∃ j : Nat, j ≤ ds.length ∧ i = .int .i64 j ∧ OwnB wr (w.heap.size + 1) 4 (.slice (some ⟨w.heap.size + 1, 0, none⟩) n n) (bpP n ds l r m j) ∧ Below (w.heap.size + 1) y0 wr) (fun i _ => ds.length - (intOf i).toNat)
  case atStart => exact ⟨0, by omega, rfl, ho, Below.refl _ _⟩
  case round =>
    obtain ⟨j, hj, rfl, ho, bw⟩ := hrel
    obtain ⟨wo, rfl⟩ : ∃ wo : World, wo = wr := ⟨_, rfl⟩
    have hzr := bw.size
    replace c00 := keepC bw (by first | (simp; done) | (simp; omega)) c00; replace c01 := keepC bw (by first | (simp; done) | (simp; omega)) c01; replace c02 := keepC bw (by first | (simp; done) | (simp; omega)) c02
    by_cases hlt : j < ds.length
    · obtain ⟨b, o, rfl, hb2, hb3, e0, e1, e2, e3, e4⟩ := (hD.below bw (by omega)).c5 hlt
      have hdj := vReel_d HV.out hlt
      have hk0 : (0 : Int) ≤ (j : Int) := by omega
      have hk1 : (j : Int) < (ds.length : Int) := by omega
      clear hD
      have hbd : Below wo.heap.size wo (wo.alloc (.cells #[.int .i64 (gi (gr ds j) 0), .int .i64 (gi (gr ds j) 1), .int .i64 (gi (gr ds j) 2), .int .i64 (gi (gr ds j) 3), .int .i64 (gi (gr ds j) 4)] 68)) := (Below.refl _ _).alloc (Nat.le_refl _) _
      have x_c02 := keepB hbd c02
      by_cases x1 : gi (gr ds j) 4 ≤ m
      · have Hno := Lib.hid (bpP_succ_no (n := n) (l := l) (r := r) (m := m) hlt (by unfold dBad; rw [decide_eq_false (show ¬ m < gi (gr ds j) 4 by omega)]; rfl))
        go_wp2
        go_roundw
        case rel => exact ⟨j + 1, by omega, by go_num, by rw [Hno.out]; exact ho.kept (.of_below hbd (Nat.le_refl _)), bw.trans (hbd.mono (by omega))⟩
        case measure => simp [intOf]; omega
      · by_cases x2 : r ≤ gi (gr ds j) 0
        · have Hno := Lib.hid (bpP_succ_no (n := n) (l := l) (r := r) (m := m) hlt (by unfold dBad; rw [decide_eq_false (show ¬ gi (gr ds j) 0 < r by omega)]; simp))
          go_wp2
          go_roundw
          case rel => exact ⟨j + 1, by omega, by go_num, by rw [Hno.out]; exact ho.kept (.of_below hbd (Nat.le_refl _)), bw.trans (hbd.mono (by omega))⟩
          case measure => simp [intOf]; omega
        · by_cases x3 : gi (gr ds j) 1 ≤ l
          · have Hno := Lib.hid (bpP_succ_no (n := n) (l := l) (r := r) (m := m) hlt (by unfold dBad; rw [decide_eq_false (show ¬ l < gi (gr ds j) 1 by omega)]; simp))
            go_wp2
            go_roundw
            case rel => exact ⟨j + 1, by omega, by go_num, by rw [Hno.out]; exact ho.kept (.of_below hbd (Nat.le_refl _)), bw.trans (hbd.mono (by omega))⟩
            case measure => simp [intOf]; omega
          · have Hbad := Lib.hid (show dBad l r m (gr ds j) = true by unfold dBad; simp; omega)
            have Ho := Lib.hid (ho.kept (.of_below hbd (Nat.le_refl _)))
            clear ho
            go_wp2
            clear hbd x_c02
            generalize hwd : wo.alloc (.cells #[.int .i64 (gi (gr ds j) 0), .int .i64 (gi (gr ds j) 1), .int .i64 (gi (gr ds j) 2), .int .i64 (gi (gr ds j) 3), .int .i64 (gi (gr ds j) 4)] 68) = wd at Ho ⊢
            have hw1 := hwd.symm
            clear hwd
            have d3 : wd.cell? ⟨wo.heap.size, 3, none⟩ = some (.int .i64 (gi (gr ds j) 3)) := by rw [hw1]; go_simp
            have bd : Below wo.heap.size wo wd := by rw [hw1]; exact (Below.refl _ _).alloc (Nat.le_refl _) _
            have zd : wo.heap.size < wd.heap.size := by rw [hw1]; simp
            clear hw1 e0 e1 e2 e3 e4
            have hbw := bw.trans (bd.mono (by omega))
            replace c00 := keepB bd c00; replace c01 := keepB bd c01; replace c02 := keepB bd c02
            go_loopw [12] (fun i wr => ∃ p : Nat, i = .int .i64 p ∧ gi (gr ds j) 2 ≤ (p : Int) ∧ (p : Int) ≤ gi (gr ds j) 3 ∧ OwnB wr (w.heap.size + 1) 4 (.slice (some ⟨w.heap.size + 1, 0, none⟩) n n) (bpM n ds l r m j p) ∧ Below (w.heap.size + 1) y0 wr ∧ wr.cell? ⟨wo.heap.size, 3, none⟩ = some (.int .i64 (gi (gr ds j) 3)) ∧ wr.cell? ⟨w.heap.size, 2, none⟩ = some (.slice (some ⟨b, o, none⟩) ds.length c)) (fun i _ => (gi (gr ds j) 3).toNat - (intOf i).toNat)
            case atStart => exact ⟨(gi (gr ds j) 2).toNat, by rw [Int.toNat_of_nonneg hdj.1], by omega, by omega, by rw [bpM_start (Int.toNat_of_nonneg hdj.1)]; exact Ho.out, hbw, d3, c02⟩
            case round =>
              obtain ⟨p, rfl, hp1, hp2, ho, bw2, d3, c02⟩ := hrel
              by_cases hlt2 : (p : Int) < gi (gr ds j) 3
              · have hpn : p < n := by omega
                obtain ⟨hg, hcell, hfr, hst⟩ := ho.at_ (i := p) (by rw [bpM_len]; exact hpn)
                have Hst := Lib.hid (hst true)
                rw [bpM_step hp1] at Hst
                have hn0 : (0 : Int) ≤ (p : Int) := by omega
                have hn1 : (p : Int) < (n : Int) := by omega
                have hne : ¬ (w.heap.size + 1) = wo.heap.size := by omega
                have hne2 : ¬ (w.heap.size + 1) = w.heap.size := by omega
                clear hst ho
                go_wp2
                go_roundw
                case rel => exact ⟨p + 1, by go_num, by omega, by omega, Hst.out, bw2.setCell (Nat.le_refl _) _, by go_simp, by go_simp⟩
                case measure => simp [intOf]; omega
              · have HE := Lib.hid (bpM_end (n := n) (l := l) (r := r) (m := m) hlt Hbad.out (p := p) (by omega))
                have Ho2 := Lib.hid ho
                clear ho
                go_wp2
                go_roundw
                case rel => exact ⟨j + 1, by omega, by go_num, by rw [← HE.out]; exact Ho2.out, bw2⟩
                case measure => simp [intOf]; omega
    · have He := Lib.hid (show j = ds.length by omega)
      go_wp2
      go_ret
      exact ⟨_, rfl, by rw [← He.out]; exact ownsRow_base ho (by omega), Hb.out.trans (bw.mono (by omega))⟩
set_option maxRecDepth 100000 in
set_option maxHeartbeats 1600000 in
theorem sBadPlaces_any (lo hi : Nat) (W L : Int) (v : Value) (ds : List (List Int)) (l r m : Int) (w : World) (h : TS w lo hi 5 v ds) (hhi : hi ≤ w.heap.size) (hv : vReel W L ds = true) :
    Calls Try.prog 68 #[.agg #[.int .i64 W, .int .i64 L, v], .int .i64 l, .int .i64 r, .int .i64 m] w fun e w' => ∃ v', e = .returned v' ∧ OwnB w' w.heap.size 4 v' (bpP L.toNat ds l r m ds.length) ∧ Below w.heap.size w w' := by
  obtain ⟨A, c, rfl, hc, hm⟩ := h.form
  have hrg := vReel_rng hv
  obtain ⟨n, rfl⟩ : ∃ n : Nat, L = (n : Int) := ⟨L.toNat, by omega⟩
  rw [Int.toNat_natCast]
  have HV := Lib.hid hv
  clear hv
  have Hs := Lib.hid (show ∃ w1, w1 = (w.alloc (.cells #[.int .i64 W, .int .i64 ((n : Int)), .slice A ds.length c] 30)) ∧ Below w.heap.size w w1 ∧ w1.cell? ⟨w.heap.size, 0, none⟩ = some (.int .i64 W) ∧ w1.cell? ⟨w.heap.size, 1, none⟩ = some (.int .i64 ((n : Int))) ∧ w1.cell? ⟨w.heap.size, 2, none⟩ = some (.slice A ds.length c) ∧ TS w1 lo hi 5 (.slice A ds.length c) ds ∧ w.heap.size < w1.heap.size from by
    have hb : Below w.heap.size w (w.alloc (.cells #[.int .i64 W, .int .i64 ((n : Int)), .slice A ds.length c] 30)) := (Below.refl _ _).alloc (Nat.le_refl _) _
    exact ⟨_, rfl, hb, by go_simp, by go_simp, by go_simp, h.below hb hhi, by simp⟩)
  go_enter Try.func68, Try.ntmps68
  go_wp2_with (at_make; refine wpList_makeB SlB _ rfl _ _ rfl (w.heap.size + 1) n rfl rfl (by omega) (by simp) ?_; intro y0 ho hb1 hs1; obtain ⟨w1, hw1, hb0, c00, c01, c02, hT0, hz⟩ := Hs.out; subst hw1; replace c00 := keepB hb1 c00; replace c01 := keepB hb1 c01; replace c02 := keepB hb1 c02; have hD := hT0.below hb1 (by simp; omega); have Hb := Lib.hid (hb0.trans (hb1.mono (by simp))); clear hT0 hb0 hb1 hz Hs h)
  replace ho : OwnB y0 (w.heap.size + 1) 4 (.slice (some ⟨w.heap.size + 1, 0, none⟩) n n) (List.replicate n false) := by simpa using ho
  replace hs1 : w.heap.size + 1 < y0.heap.size := by simpa using hs1
  rw [← bpP_zero n ds l r m] at ho
  go_loopw [10] (fun i wr => ∃ j : Nat, j ≤ ds.length ∧ i = .int .i64 j ∧ OwnB wr (w.heap.size + 1) 4 (.slice (some ⟨w.heap.size + 1, 0, none⟩) n n) (bpP n ds l r m j) ∧ Below (w.heap.size + 1) y0 wr) (fun i _ => ds.length - (intOf i).toNat)
  case atStart => exact ⟨0, by omega, rfl, ho, Below.refl _ _⟩
  case round =>
    obtain ⟨j, hj, rfl, ho, bw⟩ := hrel
    obtain ⟨wo, rfl⟩ : ∃ wo : World, wo = wr := ⟨_, rfl⟩
    have hzr := bw.size
    replace c00 := keepC bw (by first | (simp; done) | (simp; omega)) c00; replace c01 := keepC bw (by first | (simp; done) | (simp; omega)) c01; replace c02 := keepC bw (by first | (simp; done) | (simp; omega)) c02
    by_cases hlt : j < ds.length
    · obtain ⟨b, o, rfl, hb2, hb3, e0, e1, e2, e3, e4⟩ := (hD.below bw (by omega)).c5 hlt
      have hdj := vReel_d HV.out hlt
      have hk0 : (0 : Int) ≤ (j : Int) := by omega
      have hk1 : (j : Int) < (ds.length : Int) := by omega
      clear hD
      have hbd : Below wo.heap.size wo (wo.alloc (.cells #[.int .i64 (gi (gr ds j) 0), .int .i64 (gi (gr ds j) 1), .int .i64 (gi (gr ds j) 2), .int .i64 (gi (gr ds j) 3), .int .i64 (gi (gr ds j) 4)] 68)) := (Below.refl _ _).alloc (Nat.le_refl _) _
      have x_c02 := keepB hbd c02
      by_cases x1 : gi (gr ds j) 4 ≤ m
      · have Hno := Lib.hid (bpP_succ_no (n := n) (l := l) (r := r) (m := m) hlt (by unfold dBad; rw [decide_eq_false (show ¬ m < gi (gr ds j) 4 by omega)]; rfl))
        go_wp2
        go_roundw
        case rel => exact ⟨j + 1, by omega, by go_num, by rw [Hno.out]; exact ho.kept (.of_below hbd (Nat.le_refl _)), bw.trans (hbd.mono (by omega))⟩
        case measure => simp [intOf]; omega
      · by_cases x2 : r ≤ gi (gr ds j) 0
        · have Hno := Lib.hid (bpP_succ_no (n := n) (l := l) (r := r) (m := m) hlt (by unfold dBad; rw [decide_eq_false (show ¬ gi (gr ds j) 0 < r by omega)]; simp))
          go_wp2
          go_roundw
          case rel => exact ⟨j + 1, by omega, by go_num, by rw [Hno.out]; exact ho.kept (.of_below hbd (Nat.le_refl _)), bw.trans (hbd.mono (by omega))⟩
          case measure => simp [intOf]; omega
        · by_cases x3 : gi (gr ds j) 1 ≤ l
          · have Hno := Lib.hid (bpP_succ_no (n := n) (l := l) (r := r) (m := m) hlt (by unfold dBad; rw [decide_eq_false (show ¬ l < gi (gr ds j) 1 by omega)]; simp))
            go_wp2
            go_roundw
            case rel => exact ⟨j + 1, by omega, by go_num, by rw [Hno.out]; exact ho.kept (.of_below hbd (Nat.le_refl _)), bw.trans (hbd.mono (by omega))⟩
            case measure => simp [intOf]; omega
          · have Hbad := Lib.hid (show dBad l r m (gr ds j) = true by unfold dBad; simp; omega)
            have Ho := Lib.hid (ho.kept (.of_below hbd (Nat.le_refl _)))
            clear ho
            go_wp2
            clear hbd x_c02
            generalize hwd : wo.alloc (.cells #[.int .i64 (gi (gr ds j) 0), .int .i64 (gi (gr ds j) 1), .int .i64 (gi (gr ds j) 2), .int .i64 (gi (gr ds j) 3), .int .i64 (gi (gr ds j) 4)] 68) = wd at Ho ⊢
            have hw1 := hwd.symm
            clear hwd
            have d3 : wd.cell? ⟨wo.heap.size, 3, none⟩ = some (.int .i64 (gi (gr ds j) 3)) := by rw [hw1]; go_simp
            have bd : Below wo.heap.size wo wd := by rw [hw1]; exact (Below.refl _ _).alloc (Nat.le_refl _) _
            have zd : wo.heap.size < wd.heap.size := by rw [hw1]; simp
            clear hw1 e0 e1 e2 e3 e4
            have hbw := bw.trans (bd.mono (by omega))
            replace c00 := keepB bd c00; replace c01 := keepB bd c01; replace c02 := keepB bd c02
            go_loopw [12] (fun i wr => ∃ p : Nat, i = .int .i64 p ∧ gi (gr ds j) 2 ≤ (p : Int) ∧ (p : Int) ≤ gi (gr ds j) 3 ∧ OwnB wr (w.heap.size + 1) 4 (.slice (some ⟨w.heap.size + 1, 0, none⟩) n n) (bpM n ds l r m j p) ∧ Below (w.heap.size + 1) y0 wr ∧ wr.cell? ⟨wo.heap.size, 3, none⟩ = some (.int .i64 (gi (gr ds j) 3)) ∧ wr.cell? ⟨w.heap.size, 2, none⟩ = some (.slice (some ⟨b, o, none⟩) ds.length c)) (fun i _ => (gi (gr ds j) 3).toNat - (intOf i).toNat)
            case atStart => exact ⟨(gi (gr ds j) 2).toNat, by rw [Int.toNat_of_nonneg hdj.1], by omega, by omega, by rw [bpM_start (Int.toNat_of_nonneg hdj.1)]; exact Ho.out, hbw, d3, c02⟩
            case round =>
              obtain ⟨p, rfl, hp1, hp2, ho, bw2, d3, c02⟩ := hrel
              by_cases hlt2 : (p : Int) < gi (gr ds j) 3
              · have hpn : p < n := by omega
                obtain ⟨hg, hcell, hfr, hst⟩ := ho.at_ (i := p) (by rw [bpM_len]; exact hpn)
                have Hst := Lib.hid (hst true)
                rw [bpM_step hp1] at Hst
                have hn0 : (0 : Int) ≤ (p : Int) := by omega
                have hn1 : (p : Int) < (n : Int) := by omega
                have hne : ¬ (w.heap.size + 1) = wo.heap.size := by omega
                have hne2 : ¬ (w.heap.size + 1) = w.heap.size := by omega
                clear hst ho
                go_wp2
                go_roundw
                case rel => exact ⟨p + 1, by go_num, by omega, by omega, Hst.out, bw2.setCell (Nat.le_refl _) _, by go_simp, by go_simp⟩
                case measure => simp [intOf]; omega
              · have HE := Lib.hid (bpM_end (n := n) (l := l) (r := r) (m := m) hlt Hbad.out (p := p) (by omega))
                have Ho2 := Lib.hid ho
                clear ho
                go_wp2
                go_roundw
                case rel => exact ⟨j + 1, by omega, by go_num, by rw [← HE.out]; exact Ho2.out, bw2⟩
                case measure => simp [intOf]; omega
    · have He := Lib.hid (show j = ds.length by omega)
      go_wp2
      go_ret
      exact ⟨_, rfl, by rw [← He.out]; exact ownsRow_base ho (by omega), Hb.out.trans (bw.mono (by omega))⟩
end Go.Proofs.Ytodbgkflakfjpaa
