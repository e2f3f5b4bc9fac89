/-
  Lemmas and contracts of single functions of this program, used by the proofs of its laws: what each call returns and what becomes of memory. Conditions: the hypotheses of each theorem.
-/
import Derived.Test.YteckjiaaikdghaaPieP
import Derived.Test.YteckjiaaikdghaaTup
namespace Go.Proofs.Yteckjiaaikdghaa
open Go.RowKit
attribute [local go_sem ↓] Go.wp_at_zero Go.wp_at_succ

/-- there are no more pieces than parents and rolls that were come to -/
def Few (s : Pst) : Prop := s.acc.length ≤ s.p + s.i + (if s.want = 0 then 1 else 0)
theorem Few.cut {P W : List Int} {s : Pst} (h : Few s) (_hs : Snd P W s) (hw : 0 < s.want) : Few (cutP P s) := by
  unfold Few at h ⊢
  rw [if_neg (by omega)] at h
  unfold cutP
  dsimp only
  split
  · dsimp only; simp only [List.length_append, List.length_singleton]; omega
  · rename_i he
    dsimp only
    simp only [List.length_append, List.length_singleton]
    rw [if_pos (by omega)]; omega
theorem gi_out {W : List Int} {k : Nat} (h : W.length ≤ k) : gi W k = 0 := by simp [gi, h]
theorem sum_next (W : List Int) (k : Nat) : gi W k + sumFrom W (k + 1) = sumFrom W k := by
  rcases Nat.lt_or_ge k W.length with h | h
  · exact (sumFrom_step h).symm
  · rw [gi_out h, sumFrom_end h, sumFrom_end (by omega)]; rfl
def nextP (W : List Int) (s : Pst) : Pst := ⟨s.acc, s.i + 1, s.p, s.at_, gi W (s.i + 1)⟩
theorem Snd.next {P W : List Int} {s : Pst} (h : Snd P W s) (hW : ∀ j, j < W.length → 1 ≤ gi W j) (hi : s.i < W.length) (hw : s.want = 0) : Snd P W (nextP W s) := by
  obtain ⟨h1, h2, h3, h4, h5, h6, h7, h8⟩ := h
  have h9 := sum_next W (s.i + 1)
  refine ⟨hi, h2, h3, h4, h5, ?_, fun hq => gi_out (by unfold nextP at hq; dsimp only at hq; omega), ?_⟩
  · show 0 ≤ gi W (s.i + 1)
    rcases Nat.lt_or_ge (s.i + 1) W.length with h | h
    · have := hW _ h; omega
    · rw [gi_out h]; omega
  · show gi W (s.i + 1) + sumFrom W (s.i + 1 + 1) ≤ sumFrom P s.p - s.at_
    omega
theorem Few.next {W : List Int} {s : Pst} (h : Few s) (hw : s.want = 0) : Few (nextP W s) := by
  unfold Few at h ⊢
  rw [if_pos hw] at h
  show s.acc.length ≤ s.p + (s.i + 1) + _
  omega
/-- the pieces are numbers of 64 bits, four each -/
theorem Snd.start {P W : List Int} (hW : ∀ j, j < W.length → 1 ≤ gi W j) (hP : ∀ j, j < P.length → 1 ≤ gi P j) (h : sumFrom W 0 ≤ sumFrom P 0) : Snd P W ⟨[], 0, 0, 0, gi W 0⟩ := by
  have h9 := sum_next W 0
  refine ⟨Nat.zero_le _, Nat.zero_le _, Int.le_refl _, fun hq => ?_, fun _ => rfl, ?_, fun hq => gi_out (by dsimp only at hq; omega), ?_⟩
  · have := hP 0 hq
    show (0 : Int) < gi P 0
    omega
  · show 0 ≤ gi W 0
    rcases Nat.lt_or_ge 0 W.length with h | h
    · have := hW _ h; omega
    · rw [gi_out h]; omega
  · show gi W 0 + sumFrom W (0 + 1) ≤ sumFrom P 0 - 0
    omega
theorem sum_from : ∀ (W : List Int) (k : Nat), k ≤ W.length → sumI W k + sumFrom W k = sumFrom W 0
  | W, 0, _ => by simp [sumI]
  | W, k + 1, hk => by
    have ih := sum_from W k (by omega)
    have := sumFrom_step (P := W) (p := k) (by omega)
    show sumI W k + gi W k + sumFrom W (k + 1) = _
    omega
theorem en_sums {P W : List Int} (h : enL P W 0 = true) : (∀ j, j < W.length → 1 ≤ gi W j ∧ gi W j ≤ 400) ∧ (∀ j, j < P.length → 1 ≤ gi P j ∧ gi P j ≤ 400) ∧ P.length ≤ 60 ∧ W.length ≤ 60 ∧ sumFrom W 0 ≤ sumFrom P 0 := by
  unfold enL at h
  simp only [Bool.and_eq_true, decide_eq_true_eq] at h
  obtain ⟨⟨h1, h2⟩, h3, h4⟩ := h
  have p1 := vLen_iff.1 h1
  have p2 := vLen_iff.1 h2
  have s1 := sum_from P P.length (Nat.le_refl _)
  have s2 := sum_from W W.length (Nat.le_refl _)
  rw [sumFrom_end (Nat.le_refl _)] at s1 s2
  exact ⟨p2.2, p1.2, p1.1, p2.1, by omega⟩
/-- where the program begins -/
def Pst.start (W : List Int) : Pst := ⟨[], 0, 0, 0, gi W 0⟩
theorem placeOn_zero (lo hi : Nat) (v : Value) (xs : List Int) (w : World) (h : Ints w lo hi v xs) (hb : 0 < xs.length → 1 ≤ gi xs 0) :
    Calls Try.prog 103 #[v, .int .i64 0] w fun e w' => e = .returned (.tuple #[.int .i64 0, .int .i64 0]) ∧ w = w' := by
  obtain ⟨A, c, rfl, hc, hm⟩ := h.form
  by_cases h0 : 0 < xs.length
  · obtain ⟨b, o, rfl, _, _, hcell, _⟩ := h.cell h0
    have hx := hb h0
    have h0' : (0 : Int) < (xs.length : Int) := by omega
    rw [Nat.add_zero] at hcell
    obtain ⟨x, hx9⟩ : ∃ x, x = gi xs 0 := ⟨_, rfl⟩
    rw [← hx9] at hx hcell
    have hlt : ¬ (0 : Int) ≥ x := by omega
    have hlt2 : ¬ x ≤ 0 := by omega
    clear hx9 hb
    go_enter Try.func103, Try.ntmps103
    go_wp2
    go_loop [6, 1] (fun i a => i = .int .i64 0 ∧ a = .int .i64 0) (fun _ _ => 0)
    case atStart => exact ⟨rfl, rfl⟩
    case round =>
      obtain ⟨rfl, rfl⟩ := hrel
      go_wp2
      go_ret2
      exact ⟨rfl, rfl⟩
  · have h0' : ¬ (0 : Int) < (xs.length : Int) := by omega
    go_enter Try.func103, Try.ntmps103
    go_wp2
    go_loop [6, 1] (fun i a => i = .int .i64 0 ∧ a = .int .i64 0) (fun _ _ => 0)
    case atStart => exact ⟨rfl, rfl⟩
    case round =>
      obtain ⟨rfl, rfl⟩ := hrel
      go_wp2
      go_ret2
      exact ⟨rfl, rfl⟩
theorem SlPiece1 : SlT Try.prog 62 65 (.agg #[.int .i64 0, .int .i64 0, .int .i64 0, .int .i64 0]) 4 32 := ⟨Try.underlying62, by kernel_rfl, rfl, by omega⟩
theorem sumFrom_mono {P : List Int} (h : ∀ j, j < P.length → 1 ≤ gi P j) : ∀ p, sumFrom P p ≤ sumFrom P 0
  | 0 => Int.le_refl _
  | p + 1 => by
    have ih := sumFrom_mono h p
    rcases Nat.lt_or_ge p P.length with hp | hp
    · have := sumFrom_step hp
      have := h p hp
      omega
    · rw [sumFrom_end (by omega)]; exact sumFrom_nonneg h 0
theorem sum_le : ∀ {P : List Int}, (∀ j, j < P.length → gi P j ≤ 400) → sumFrom P 0 ≤ 400 * P.length
  | [], _ => by simp [sumFrom]
  | x :: t, h => by
    have ih := sum_le (P := t) fun j hj => h (j + 1) (by simp; omega)
    have h0 : x ≤ 400 := h 0 (by simp)
    have e1 : sumFrom (x :: t) 0 = x + sumFrom t 0 := by simp [sumFrom]
    rw [e1, List.length_cons]; omega
/-- what a call returns that makes the pieces -/
def PcPost (tP : Nat) (P W : List Int) (w : World) (e : Ending) (w' : World) : Prop := ∃ (v' : Value) (k : Nat), e = .returned v' ∧ OwnT w' w.heap.size tP 4 v' (runP P W (Pst.start W) k).acc ∧ (runP P W (Pst.start W) k).i = W.length ∧ Below w.heap.size w w'
theorem i64_4P {a b c d : Int} (ha : I64 a) (hb : I64 b) (hc : I64 c) (hd : I64 d) : ∀ n ∈ [a, b, c, d], I64 n := fun n hn => by
  simp only [List.mem_cons, List.not_mem_nil, or_false] at hn
  rcases hn with rfl | rfl | rfl | rfl <;> assumption
theorem run_cut {P W : List Int} {s0 s : Pst} {k : Nat} (h : s = runP P W s0 k) (hi : s.i < W.length) (hw : 0 < s.want) : cutP P s = runP P W s0 (k + 1) := by
  show _ = stepP P W (runP P W s0 k)
  rw [← h]; unfold stepP
  rw [if_neg (by omega), if_pos hw]
theorem run_next {P W : List Int} {s0 s : Pst} {k : Nat} (h : s = runP P W s0 k) (hi : s.i < W.length) (hw : ¬ 0 < s.want) : nextP W s = runP P W s0 (k + 1) := by
  show _ = stepP P W (runP P W s0 k)
  rw [← h]; unfold stepP
  rw [if_neg (by omega), if_neg hw]; rfl
set_option maxRecDepth 100000 in
set_option maxHeartbeats 4000000 in
theorem PiecesOf_any (lo hi l2 h2 : Nat) (v u : Value) (P W : List Int) (w : World) (h : Ints w lo hi v P) (hhi : hi ≤ w.heap.size) (hy : Ints w l2 h2 u W) (hh2 : h2 ≤ w.heap.size) (hen : enL P W 0 = true) :
    Calls Try.prog 67 #[v, u, .int .i64 0] w fun e w' => PcPost 65 P W w e w' := by
  obtain ⟨A, c, rfl, hc, hm⟩ := h.form
  obtain ⟨B, d, rfl, hd, hm2⟩ := hy.form
  have hs := en_sums hen
  have HW := Lib.hid (show ∀ j, j < W.length → 1 ≤ gi W j from fun j hj => (hs.1 j hj).1)
  have HP := Lib.hid (show ∀ j, j < P.length → 1 ≤ gi P j from fun j hj => (hs.2.1 j hj).1)
  have HP4 := Lib.hid (show ∀ j, j < P.length → gi P j ≤ 400 from fun j hj => (hs.2.1 j hj).2)
  have HW4 := Lib.hid (show ∀ j, j < W.length → gi W j ≤ 400 from fun j hj => (hs.1 j hj).2)
  have hP60 := hs.2.2.1
  have hW60 := hs.2.2.2.1
  have HS0 := Lib.hid (Snd.start HW.out HP.out hs.2.2.2.2)
  clear hs
  go_enter Try.func67, Try.ntmps67
  go_wp2_with fail
  refine (longEnough_any lo hi l2 h2 _ _ P W 0 w h hy).mono ?_
  rw [hen]
  rintro e w1 ⟨rfl, rfl⟩
  go_wp2_with fail
  refine (placeOn_zero lo hi _ P w h (fun h0 => HP.out 0 h0)).mono ?_
  rintro e w1 ⟨rfl, rfl⟩
  clear hen
  go_wp2
  go_loopw [7, 8, 9, 26] (fun pc p a i wr => ∃ (k : Nat) (s : Pst) (A3 : Option Addr) (c3 : Nat), Hid (s = runP P W (Pst.start W) k ∧ Snd P W s ∧ Few s ∧ s.want = gi W s.i) ∧ s.i ≤ W.length ∧ i = .int .i64 s.i ∧ p = .int .i64 s.p ∧ a = .int .i64 s.at_ ∧ pc = .slice A3 s.acc.length c3 ∧ OwnT wr w.heap.size 65 4 (.slice A3 s.acc.length c3) s.acc ∧ Below w.heap.size w wr) (fun _ _ _ i _ => W.length - (intOf i).toNat)
  case atStart => exact ⟨0, Pst.start W, none, 0, ⟨rfl, HS0.out, by unfold Few Pst.start; simp, rfl⟩, Nat.zero_le _, rfl, rfl, rfl, rfl, OwnT.nil _ _ _ _, Below.refl _ _⟩
  case round =>
    obtain ⟨k, ⟨acc, i, p, at_, want⟩, A3, c3, HS, hi, rfl, rfl, rfl, rfl, ho, hb⟩ := hrel
    dsimp only at hi ho ⊢
    by_cases hlt : i < W.length
    · obtain ⟨b2, o2, rfl, _, _, hcell, _⟩ := (hy.below hb hh2).cell hlt
      have hi0 : (0 : Int) ≤ (i : Int) := by omega
      have hi1 : (i : Int) < (W.length : Int) := by omega
      have hwant : gi W i = want := HS.out.2.2.2.symm
      rw [hwant] at hcell
      obtain ⟨wo, rfl⟩ : ∃ wo : World, wo = wr := ⟨_, rfl⟩
      have HS1 := Lib.hid (show (⟨acc, i, p, at_, want⟩ : Pst) = runP P W (Pst.start W) k ∧ Snd P W ⟨acc, i, p, at_, want⟩ ∧ Few ⟨acc, i, p, at_, want⟩ from ⟨HS.out.1, HS.out.2.1, HS.out.2.2.1⟩)
      have Ho := Lib.hid ho
      have Hb := Lib.hid hb
      clear HS ho hb hwant
      go_wp2
      go_loopw [7, 8, 9, 11] (fun pc p a wt wr => ∃ (k : Nat) (s : Pst) (A3 : Option Addr) (c3 : Nat), Hid (s = runP P W (Pst.start W) k ∧ Snd P W s ∧ Few s) ∧ s.i = i ∧ wt = .int .i64 s.want ∧ p = .int .i64 s.p ∧ a = .int .i64 s.at_ ∧ pc = .slice A3 s.acc.length c3 ∧ OwnT wr w.heap.size 65 4 (.slice A3 s.acc.length c3) s.acc ∧ Below w.heap.size w wr) (fun _ _ _ wt _ => (intOf wt).toNat)
      case atStart => exact ⟨k, ⟨acc, i, p, at_, want⟩, A3, c3, HS1, rfl, rfl, rfl, rfl, rfl, Ho.out, Hb.out⟩
      case round =>
        clear HS1 Ho Hb
        obtain ⟨k1, ⟨acc1, i1, p1, at1, want1⟩, A4, c4, HS, hie, rfl, rfl, rfl, rfl, ho, hb⟩ := hrel
        dsimp only at hie ho ⊢
        subst hie
        by_cases hw : 0 < want1
        · have hmo := HS.out.2.1.more HW.out hw
          dsimp only at hmo
          have hsn := HS.out.2.1
          obtain ⟨_, _, n3, n4, _, n6, _, _⟩ := hsn
          dsimp only at n3 n4 n6
          have hfew := HS.out.2.2
          unfold Few at hfew
          dsimp only at hfew
          rw [if_neg (by omega)] at hfew
          have hp4 := HP4.out p1 hmo.1
          have n4' := n4 hmo.1
          obtain ⟨b1, o1, rfl, _, _, pcell, _⟩ := (h.below hb hhi).cell hmo.1
          obtain ⟨q, hq⟩ : ∃ q, q = gi P p1 := ⟨_, rfl⟩
          rw [← hq] at pcell n4' hp4
          have HC := Lib.hid (HS.out.2.1.cut HP.out HW.out hw)
          have HF := Lib.hid (Few.cut HS.out.2.2 HS.out.2.1 hw)
          have hst := run_cut HS.out.1 hmo.2 hw
          obtain ⟨n, hn⟩ : ∃ n, min want1 (q - at1) = n := ⟨_, rfl⟩
          have hp0 : (0 : Int) ≤ (p1 : Int) := by omega
          have hp1 : (p1 : Int) < (P.length : Int) := by omega
          have hn1 : 1 ≤ n ∧ n ≤ 400 ∧ n ≤ want1 := by omega
          have hw4 : want1 ≤ 9223372036854775807 := by
            have h8 := HS.out.2.1.2.2.2.2.2.2.2
            have h9 := sumFrom_nonneg HW.out (i1 + 1)
            have h7 := sum_le HP4.out
            have h6 := sumFrom_mono HP.out p1
            dsimp only at h8
            omega
          have HY := Lib.hid (i64_4P (a := (p1 : Int)) (b := (i1 : Int)) (c := at1) (d := n) ⟨by omega, by omega⟩ ⟨by omega, by omega⟩ ⟨by omega, by omega⟩ ⟨by omega, by omega⟩)
          have Ho := Lib.hid ho
          have Hb := Lib.hid hb
          have hzr := hb.size
          have hfl : acc1.length ≤ 200 := by omega
          have HST := Lib.hid hst
          clear HS ho hb hst n4 n6 hfew
          by_cases he : at1 + n = q
          · have heb : (at1 + n == q) = true := beq_t he
            have HCU := Lib.hid (show cutP P ⟨acc1, i1, p1, at1, want1⟩ = ⟨acc1 ++ [[(p1 : Int), (i1 : Int), at1, n]], i1, p1 + 1, 0, want1 - n⟩ by
              unfold cutP
              dsimp only
              rw [← hq, hn, if_pos he])
            rw [HCU.out] at HC HF HST
            have HQ := Lib.hid hq
            clear hq he
            go_wp2_with (at_builtin; refine wpList_appendT SlPiece1 _ rfl (.tmp 41) (.tmp 47) rfl [(p1 : Int), (i1 : Int), at1, n] _ rfl w.heap.size _ acc1 rfl rfl Ho.out ⟨rfl, HY.out⟩ (by omega) (by omega) hzr ?_; intro v' w' ho' hg'; have hfo := ho'.form; obtain ⟨A5, c5, hv5, _⟩ := hfo; subst hv5; have Ho' := Lib.hid ho'; have Hb' := Lib.hid (Hb.out.trans hg'.below); have pc2 := (h.below Hb'.out hhi).cell' hmo.1; rw [← HQ.out] at pc2; clear ho' hg')
            go_roundw
            case rel => exact ⟨k1 + 1, ⟨acc1 ++ [[(p1 : Int), (i1 : Int), at1, n]], i1, p1 + 1, 0, want1 - n⟩, A5, c5, ⟨HST.out, HC.out.1, HF.out⟩, rfl, rfl, by go_num, rfl, by simp, Ho'.out, Hb'.out⟩
            case measure => simp [intOf]; omega
          · have heb : (at1 + n == q) = false := beq_f he
            have HCU := Lib.hid (show cutP P ⟨acc1, i1, p1, at1, want1⟩ = ⟨acc1 ++ [[(p1 : Int), (i1 : Int), at1, n]], i1, p1, at1 + n, want1 - n⟩ by
              unfold cutP
              dsimp only
              rw [← hq, hn, if_neg he])
            rw [HCU.out] at HC HF HST
            have HQ := Lib.hid hq
            clear hq he
            go_wp2_with (at_builtin; refine wpList_appendT SlPiece1 _ rfl (.tmp 41) (.tmp 47) rfl [(p1 : Int), (i1 : Int), at1, n] _ rfl w.heap.size _ acc1 rfl rfl Ho.out ⟨rfl, HY.out⟩ (by omega) (by omega) hzr ?_; intro v' w' ho' hg'; have hfo := ho'.form; obtain ⟨A5, c5, hv5, _⟩ := hfo; subst hv5; have Ho' := Lib.hid ho'; have Hb' := Lib.hid (Hb.out.trans hg'.below); have pc2 := (h.below Hb'.out hhi).cell' hmo.1; rw [← HQ.out] at pc2; clear ho' hg')
            go_roundw
            case rel => exact ⟨k1 + 1, ⟨acc1 ++ [[(p1 : Int), (i1 : Int), at1, n]], i1, p1, at1 + n, want1 - n⟩, A5, c5, ⟨HST.out, HC.out.1, HF.out⟩, rfl, rfl, rfl, rfl, by simp, Ho'.out, Hb'.out⟩
            case measure => simp [intOf]; omega
        · have hz : want1 = 0 := by have := HS.out.2.1.2.2.2.2.2.1; dsimp only at this; omega
          have HN := Lib.hid (run_next HS.out.1 hlt hw)
          have HSN := Lib.hid (HS.out.2.1.next HW.out hlt hz)
          have HFN := Lib.hid (HS.out.2.2.next (W := W) hz)
          have Ho := Lib.hid ho
          have Hb := Lib.hid hb
          clear HS ho hb hz
          go_wp2
          go_roundw
          case rel => exact ⟨k1 + 1, nextP W ⟨acc1, i1, p1, at1, want1⟩, A4, c4, ⟨HN.out, HSN.out, HFN.out, rfl⟩, hlt, by show Value.int .i64 _ = Value.int .i64 ((i1 + 1 : Nat) : Int); go_num, rfl, rfl, rfl, Ho.out, Hb.out⟩
          case measure => simp [intOf]; omega
    · have hie : i = W.length := by omega
      have hni : ¬ (i : Int) < (W.length : Int) := by omega
      have HE := Lib.hid HS.out.1
      have Ho := Lib.hid ho
      have Hb := Lib.hid hb
      clear HS ho hb
      go_wp2
      go_ret
      exact ⟨.slice A3 acc.length c3, k, rfl, by rw [← HE.out]; exact Ho.out, by rw [← HE.out]; exact hie, Hb.out⟩
end Go.Proofs.Yteckjiaaikdghaa
