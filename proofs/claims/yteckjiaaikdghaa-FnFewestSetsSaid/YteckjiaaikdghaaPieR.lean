/-
  Lemmas and contracts of single functions of this program, used by the proofs of its laws: what each call returns and what becomes of memory. Conditions: the hypotheses of each theorem.
-/
import Derived.Test.YteckjiaaikdghaaPieQ
namespace Go.Proofs.Yteckjiaaikdghaa
open Go.RowKit
attribute [local go_sem ↓] Go.wp_at_zero Go.wp_at_succ

theorem sumFrom_le {P : List Int} (h : ∀ j, j < P.length → 1 ≤ gi P j) {q : Nat} : ∀ d, sumFrom P (q + d) ≤ sumFrom P q
  | 0 => Int.le_refl _
  | d + 1 => by
    have ih := sumFrom_le h (q := q) d
    rcases Nat.lt_or_ge (q + d) P.length with hp | hp
    · have := sumFrom_step hp
      have := h _ hp
      have e : q + (d + 1) = q + d + 1 := by omega
      rw [e]; omega
    · rw [sumFrom_end (show P.length ≤ q + (d + 1) by omega)]; rw [sumFrom_end hp] at ih; exact ih
set_option maxRecDepth 100000 in
set_option maxHeartbeats 4000000 in
theorem pieces_any (lo hi l2 h2 : Nat) (v u : Value) (P W : List Int) (w : World) (h : Ints w lo hi v P) (hhi : hi ≤ w.heap.size) (hy : Ints w l2 h2 u W) (hh2 : h2 ≤ w.heap.size) (hen : enL P W 0 = true) :
    Calls Try.prog 111 #[v, u, .int .i64 0] w fun e w' => PcPost 65 P W w e w' := by
  obtain ⟨A, c, rfl, hc, hm⟩ := h.form
  obtain ⟨B, d, rfl, hd, hm2⟩ := hy.form
  have hs := en_sums hen
  have HW := Lib.hid (show ∀ j, j < W.length → 1 ≤ gi W j from fun j hj => (hs.1 j hj).1)
  have HP := Lib.hid (show ∀ j, j < P.length → 1 ≤ gi P j from fun j hj => (hs.2.1 j hj).1)
  have HP4 := Lib.hid (show ∀ j, j < P.length → gi P j ≤ 400 from fun j hj => (hs.2.1 j hj).2)
  have HW4 := Lib.hid (show ∀ j, j < W.length → gi W j ≤ 400 from fun j hj => (hs.1 j hj).2)
  have hP60 := hs.2.2.1
  have hW60 := hs.2.2.2.1
  have HS0 := Lib.hid (Snd.start HW.out HP.out hs.2.2.2.2)
  clear hs
  have HO0 := Lib.hid (OwnT.empty w w.heap.size 65 4 (Nat.le_refl _))
  have HB0 := Lib.hid (show Below w.heap.size w (w.alloc (.cells #[] 65)) from (Below.refl _ _).alloc (Nat.le_refl _) _)
  clear hen
  go_enter Try.func111, Try.ntmps111
  go_wp2
  go_loopw [7, 8, 9, 10] (fun pc p a i wr => ∃ (k : Nat) (s : Pst) (q : Nat) (A3 : Option Addr) (c3 : Nat), Hid (s = runP P W (Pst.start W) k ∧ Snd P W s ∧ Few s ∧ s.want = gi W s.i) ∧ s.i ≤ W.length ∧ i = .int .i64 s.i ∧ p = .int .i64 q ∧ q ≤ s.p ∧ a = .int .i64 (s.at_ + (sumFrom P q - sumFrom P s.p)) ∧ pc = .slice A3 s.acc.length c3 ∧ OwnT wr w.heap.size 65 4 (.slice A3 s.acc.length c3) s.acc ∧ Below w.heap.size w wr) (fun _ _ _ i _ => W.length - (intOf i).toNat)
  case atStart => exact ⟨0, Pst.start W, 0, _, 0, ⟨rfl, HS0.out, by unfold Few Pst.start; simp, rfl⟩, Nat.zero_le _, rfl, rfl, Nat.zero_le _, by simp [Pst.start], rfl, HO0.out, HB0.out⟩
  case round =>
    obtain ⟨k, ⟨acc, i, p, at_, want⟩, q0, A3, c3, HS, hi, rfl, rfl, hq0, rfl, rfl, ho, hb⟩ := hrel
    dsimp only at hi ho hq0 ⊢
    by_cases hlt : i < W.length
    · obtain ⟨b2, o2, rfl, _, _, hcell, _⟩ := (hy.below hb hh2).cell hlt
      have hi0 : (0 : Int) ≤ (i : Int) := by omega
      have hi1 : (i : Int) < (W.length : Int) := by omega
      have hwant : gi W i = want := HS.out.2.2.2.symm
      rw [hwant] at hcell
      obtain ⟨wo, rfl⟩ : ∃ wo : World, wo = wr := ⟨_, rfl⟩
      have HS1 := Lib.hid (show (⟨acc, i, p, at_, want⟩ : Pst) = runP P W (Pst.start W) k ∧ Snd P W ⟨acc, i, p, at_, want⟩ ∧ Few ⟨acc, i, p, at_, want⟩ from ⟨HS.out.1, HS.out.2.1, HS.out.2.2.1⟩)
      have Ho := Lib.hid ho
      have Hb := Lib.hid hb
      clear HS ho hb hwant
      go_wp2
      go_loopw [7, 8, 9, 11] (fun pc p a wt wr => ∃ (k : Nat) (s : Pst) (q : Nat) (A3 : Option Addr) (c3 : Nat), Hid (s = runP P W (Pst.start W) k ∧ Snd P W s ∧ Few s) ∧ s.i = i ∧ wt = .int .i64 s.want ∧ p = .int .i64 q ∧ q ≤ s.p ∧ a = .int .i64 (s.at_ + (sumFrom P q - sumFrom P s.p)) ∧ pc = .slice A3 s.acc.length c3 ∧ OwnT wr w.heap.size 65 4 (.slice A3 s.acc.length c3) s.acc ∧ Below w.heap.size w wr) (fun _ _ _ wt _ => (intOf wt).toNat)
      case atStart => exact ⟨k, ⟨acc, i, p, at_, want⟩, q0, A3, c3, HS1, rfl, rfl, rfl, hq0, rfl, rfl, Ho.out, Hb.out⟩
      case round =>
        clear HS1 Ho Hb
        obtain ⟨k1, ⟨acc1, i1, p1, at1, want1⟩, q1, A4, c4, HS, hie, rfl, rfl, hq1, rfl, rfl, ho, hb⟩ := hrel
        dsimp only at hie ho hq1 ⊢
        subst hie
        by_cases hw : 0 < want1
        · have hmo := HS.out.2.1.more HW.out hw
          dsimp only at hmo
          have hsn := HS.out.2.1
          obtain ⟨_, _, n3, n4, _, n6, _, _⟩ := hsn
          dsimp only at n3 n4 n6
          have hfew := HS.out.2.2
          unfold Few at hfew
          dsimp only at hfew
          rw [if_neg (by omega)] at hfew
          have hp4 := HP4.out p1 hmo.1
          have n4' := n4 hmo.1
          obtain ⟨b1, o1, rfl, _, _, pcell, _⟩ := (h.below hb hhi).cell hmo.1
          obtain ⟨q, hq⟩ : ∃ q, q = gi P p1 := ⟨_, rfl⟩
          rw [← hq] at pcell n4' hp4
          have HC := Lib.hid (HS.out.2.1.cut HP.out HW.out hw)
          have HF := Lib.hid (Few.cut HS.out.2.2 HS.out.2.1 hw)
          have hst := run_cut HS.out.1 hmo.2 hw
          obtain ⟨n, hn⟩ : ∃ n, min want1 (q - at1) = n := ⟨_, rfl⟩
          have hp0 : (0 : Int) ≤ (p1 : Int) := by omega
          have hp1 : (p1 : Int) < (P.length : Int) := by omega
          have hn1 : 1 ≤ n ∧ n ≤ 400 ∧ n ≤ want1 := by omega
          have hw4 : want1 ≤ 9223372036854775807 := by
            have h8 := HS.out.2.1.2.2.2.2.2.2.2
            have h9 := sumFrom_nonneg HW.out (i1 + 1)
            have h7 := sum_le HP4.out
            have h6 := sumFrom_mono HP.out p1
            dsimp only at h8
            omega
          have Ho := Lib.hid ho
          have Hb := Lib.hid hb
          have HSS := Lib.hid HS.out
          have HQ := Lib.hid hq
          have hgo : 0 < want1 := hw
          have hfl0 : acc1.length ≤ 200 := by omega
          clear HS ho hb n4 n6 hfew hq
          go_wp2
          go_loop [8, 9] (fun pp aa => ∃ q' : Nat, q' ≤ p1 ∧ pp = .int .i64 q' ∧ aa = .int .i64 (at1 + (sumFrom P q' - sumFrom P p1))) (fun pp _ => p1 - (intOf pp).toNat)
          case atStart => exact ⟨q1, hq1, rfl, rfl⟩
          case round =>
            obtain ⟨q', hq', rfl, rfl⟩ := hrel
            have hp9 := hmo.1
            have hq0 : (0 : Int) ≤ (q' : Int) := by omega
            have hq2 : (q' : Int) < (P.length : Int) := by omega
            have pc' := (h.below Hb.out hhi).cell' (k := q') (by omega)
            by_cases hqp : q' < p1
            · have s1 := sumFrom_step (P := P) (p := q') (by omega)
              have s2 := sumFrom_le HP.out (q := q' + 1) (p1 - (q' + 1))
              rw [show q' + 1 + (p1 - (q' + 1)) = p1 by omega] at s2
              have s3 := sumFrom_mono HP.out q'
              have s4 := sum_le HP4.out
              have s5 := sumFrom_nonneg HP.out p1
              obtain ⟨x, hx⟩ : ∃ x, x = gi P q' := ⟨_, rfl⟩
              rw [← hx] at pc' s1
              obtain ⟨bb, hbb⟩ : ∃ bb, bb = at1 + (sumFrom P q' - sumFrom P p1) := ⟨_, rfl⟩
              rw [← hbb]
              have hge : bb ≥ x := by omega
              have hge2 : x ≤ bb := hge
              have hx1 : 1 ≤ x := by have := HP.out q' (by omega); omega
              have hb1 : bb ≤ 1000000 := by omega
              have HV := Lib.hid (show bb - x = at1 + (sumFrom P (q' + 1) - sumFrom P p1) by omega)
              clear s1 s2 s3 s4 s5 hx hbb
              go_wp2
              go_round
              case rel => exact ⟨q' + 1, by omega, by go_num, by rw [← HV.out]⟩
              case measure => simp [intOf]; omega
            · obtain rfl : q' = p1 := by omega
              have e0 : at1 + (sumFrom P q' - sumFrom P q') = at1 := by omega
              rw [e0]
              rw [← HQ.out] at pc'
              have hlt9 : ¬ at1 ≥ q := by omega
              have hlt8 : ¬ q ≤ at1 := by omega
              have hne9 : ((q' : Int) == (P.length : Int)) = false := beq_f (by omega)
              have HY := Lib.hid (i64_4P (a := (q' : Int)) (b := (i1 : Int)) (c := at1) (d := n) ⟨by omega, by omega⟩ ⟨by omega, by omega⟩ ⟨by omega, by omega⟩ ⟨by omega, by omega⟩)
              have hzr := Hb.out.size
              have hfl : acc1.length ≤ 200 := hfl0
              clear e0 hqp hq' hq1
              go_wp2_with (at_builtin; refine wpList_appendT SlPiece1 _ rfl (.tmp 60) (.tmp 66) rfl [(q' : Int), (i1 : Int), at1, n] _ rfl w.heap.size _ acc1 rfl rfl Ho.out ⟨rfl, HY.out⟩ (by omega) (by omega) hzr ?_; intro v' w' ho' hg'; have hfo := ho'.form; obtain ⟨A5, c5, hv5, _⟩ := hfo; subst hv5; have Ho' := Lib.hid ho'; have Hb' := Lib.hid (Hb.out.trans hg'.below); clear ho' hg')
              go_roundw
              case rel =>
                have hq := HQ.out
                by_cases he : at1 + n = q
                · have HCU : cutP P ⟨acc1, i1, q', at1, want1⟩ = ⟨acc1 ++ [[(q' : Int), (i1 : Int), at1, n]], i1, q' + 1, 0, want1 - n⟩ := by
                    unfold cutP
                    dsimp only
                    rw [← hq, hn, if_pos he]
                  have s1 := sumFrom_step (P := P) (p := q') (by omega)
                  refine ⟨k1 + 1, _, q', A5, c5, ⟨(HCU.symm.trans hst), by rw [← HCU]; exact HC.out.1, by rw [← HCU]; exact HF.out⟩, rfl, rfl, rfl, by show q' ≤ q' + 1; omega, ?_, by simp, Ho'.out, Hb'.out⟩
                  show Value.int .i64 (at1 + n) = Value.int .i64 (0 + (sumFrom P q' - sumFrom P (q' + 1)))
                  congr 1; omega
                · have HCU : cutP P ⟨acc1, i1, q', at1, want1⟩ = ⟨acc1 ++ [[(q' : Int), (i1 : Int), at1, n]], i1, q', at1 + n, want1 - n⟩ := by
                    unfold cutP
                    dsimp only
                    rw [← hq, hn, if_neg he]
                  refine ⟨k1 + 1, _, q', A5, c5, ⟨(HCU.symm.trans hst), by rw [← HCU]; exact HC.out.1, by rw [← HCU]; exact HF.out⟩, rfl, rfl, rfl, Nat.le_refl _, ?_, by simp, Ho'.out, Hb'.out⟩
                  show Value.int .i64 (at1 + n) = Value.int .i64 (at1 + n + (sumFrom P q' - sumFrom P q'))
                  congr 1; omega
              case measure => simp [intOf]; omega
        · have hz : want1 = 0 := by have := HS.out.2.1.2.2.2.2.2.1; dsimp only at this; omega
          have HN := Lib.hid (run_next HS.out.1 hlt hw)
          have HSN := Lib.hid (HS.out.2.1.next HW.out hlt hz)
          have HFN := Lib.hid (HS.out.2.2.next (W := W) hz)
          have Ho := Lib.hid ho
          have Hb := Lib.hid hb
          clear HS ho hb hz
          go_wp2
          go_roundw
          case rel => exact ⟨k1 + 1, nextP W ⟨acc1, i1, p1, at1, want1⟩, q1, A4, c4, ⟨HN.out, HSN.out, HFN.out, rfl⟩, hlt, by show Value.int .i64 _ = Value.int .i64 ((i1 + 1 : Nat) : Int); go_num, rfl, hq1, rfl, rfl, Ho.out, Hb.out⟩
          case measure => simp [intOf]; omega
    · have hie : i = W.length := by omega
      have hni : ¬ (i : Int) < (W.length : Int) := by omega
      have HE := Lib.hid HS.out.1
      have Ho := Lib.hid ho
      have Hb := Lib.hid hb
      clear HS ho hb
      go_wp2
      go_ret
      exact ⟨.slice A3 acc.length c3, k, rfl, by rw [← HE.out]; exact Ho.out, by rw [← HE.out]; exact hie, Hb.out⟩
end Go.Proofs.Yteckjiaaikdghaa
