/-
  Lemmas and contracts of single functions of this program, used by the proofs of its laws: what each call returns and what becomes of memory. Conditions: the hypotheses of each theorem.
-/
import Derived.Test.YteckjiaaikdghaaAllR
import Derived.Test.YteckjiaaikdghaaSplR
import Derived.Test.YteckjiaaikdghaaIntsS
namespace Go.Proofs.Yteckjiaaikdghaa
open Go.RowKit
attribute [local go_sem ↓] Go.wp_at_zero Go.wp_at_succ

theorem gi_pick {W ord : List Int} {k i : Nat} (hk : k < ord.length) (h : gi ord k = (i : Int)) : gi (pickO W ord) k = gi W i := by
  unfold pickO gi at *
  rw [List.getD_eq_getElem?_getD, List.getElem?_map, List.getElem?_eq_getElem hk]
  rw [List.getD_eq_getElem?_getD, List.getElem?_eq_getElem hk] at h
  simp only [Option.getD_some] at h
  simp [h]
theorem pick_len (W ord : List Int) : (pickO W ord).length = ord.length := by unfold pickO; rw [List.length_map]
theorem splT_rng {P W : List Int} (h : enL P W 0 = true) : -200 ≤ splT P W ∧ splT P W ≤ 200 := by
  have h1 := nPc_le h
  have h2 := (en_sums h).2.2.2.1
  unfold splT; omega
set_option maxRecDepth 100000 in
set_option maxHeartbeats 2000000 in
theorem costS_any (lo hi l2 h2 l3 h3 bp bw : Nat) (v u x : Value) (P W ord : List Int) (w : World) (h : Ints w lo hi v P) (hhi : hi ≤ w.heap.size) (hy : Ints w l2 h2 u W) (hh2 : h2 ≤ w.heap.size) (hx : Ints w l3 h3 x ord) (hh3 : h3 ≤ w.heap.size)
    (cP : w.cell? ⟨bp, 0, none⟩ = some v) (cW : w.cell? ⟨bw, 0, none⟩ = some u) (hen : enL P W 0 = true) (hb : Begun W.length ord) (hl : ord.length = W.length) :
    Calls Try.prog 51 #[x, .pointer (some ⟨bw, 0, none⟩), .pointer (some ⟨bp, 0, none⟩)] w fun e w' => e = .returned (.int .i64 (cSpl P W ord)) ∧ Below w.heap.size w w' := by
  obtain ⟨A, c, rfl, hc, hm⟩ := h.form
  obtain ⟨B, d, rfl, hd, hm2⟩ := hy.form
  obtain ⟨C, f, rfl, hf, hm3⟩ := hx.form
  have hW60 := (en_sums hen).2.2.2.1
  have HBP := Lib.hid (World.block_lt_of_cell? w _ cP)
  have HBW := Lib.hid (World.block_lt_of_cell? w _ cW)
  have HEN := Lib.hid (en_perm (pick_perm hb hl) hen)
  have HBG := Lib.hid hb
  have HLL := Lib.hid hl
  have hl1 : ord.length ≤ W.length := Nat.le_of_eq hl
  have hl2 : W.length ≤ ord.length := Nat.le_of_eq hl.symm
  clear hb hl hen
  go_enter Try.func51, Try.ntmps51
  go_wp2_with (at_make; refine wpList_makeI SlI _ rfl _ _ rfl w.heap.size ord.length rfl rfl (by omega) (Nat.le_refl _) ?_; intro w1 ho hb1 hs1)
  have Hb1 := Lib.hid hb1
  have Ho := Lib.hid ho
  replace cP := keepB hb1 cP
  replace cW := keepB hb1 cW
  clear ho hb1
  go_loopw [6, 7, 13] (fun _ _ i wr => ∃ k : Nat, k ≤ ord.length ∧ i = .int .i64 k ∧ OwnI wr w.heap.size 3 (.slice (some ⟨w.heap.size, 0, none⟩) ord.length ord.length) ((pickO W ord).take k ++ (List.replicate ord.length 0).drop k) ∧ Below w.heap.size w wr ∧ wr.cell? ⟨bp, 0, none⟩ = some (.slice A P.length c) ∧ wr.cell? ⟨bw, 0, none⟩ = some (.slice B W.length d) ∧ bp < w.heap.size ∧ bw < w.heap.size) (fun _ _ i _ => ord.length - (intOf i).toNat)
  case atStart => exact ⟨0, Nat.zero_le _, rfl, by simpa using Ho.out, Hb1.out, cP, cW, HBP.out, HBW.out⟩
  case round =>
    obtain ⟨k, hk, rfl, hown, hb, cP, cW, hbp, hbw⟩ := hrel
    clear Ho Hb1
    have hzr := hb.size
    by_cases hlt : k < ord.length
    · obtain ⟨b, o, rfl, _, _, hcell, _⟩ := (hx.below hb hh3).cell hlt
      obtain ⟨i, hi9⟩ := Int.eq_ofNat_of_zero_le (HBG.out.2 (gi ord k) (by rw [gi_eq hlt]; exact List.getElem_mem hlt)).1
      have hiW : i < W.length := by
        have := (HBG.out.2 (gi ord k) (by rw [gi_eq hlt]; exact List.getElem_mem hlt)).2
        omega
      have HGP := Lib.hid (gi_pick (W := W) hlt hi9)
      rw [hi9] at hcell
      obtain ⟨b2, o2, rfl, _, _, wcell, w64⟩ := (hy.below hb hh2).cell hiW
      obtain ⟨g, hg, _, _, hc1, hf1, hst⟩ := hown.at_ (i := k) (by rw [List.length_append, List.length_take, List.length_drop, List.length_replicate, pick_len]; omega)
      simp only [Option.some.injEq, Addr.mk.injEq, and_true] at hg
      subst hg
      obtain ⟨y, hy9⟩ : ∃ y, y = gi W i := ⟨_, rfl⟩
      rw [← hy9] at wcell w64 HGP
      have Hst := Lib.hid (hst y w64)
      have hk0 : (0 : Int) ≤ (k : Int) := by omega
      have hk1 : (k : Int) < (ord.length : Int) := by omega
      have hi0 : (0 : Int) ≤ (i : Int) := by omega
      have hi1 : (i : Int) < (W.length : Int) := by omega
      have Hb := Lib.hid hb
      clear hst hown hb hi9 hy9
      go_wp2
      go_roundw
      case rel =>
        have e := take_set_succ (pickO W ord) (List.replicate ord.length 0) k (by rw [pick_len]; exact hlt) (by simpa using hlt)
        rw [HGP.out] at e
        exact ⟨k + 1, hlt, by go_num, by rw [← e]; exact Hst.out, Hb.out.setCell (Nat.le_refl _) _, by go_simp, by go_simp, hbp, hbw⟩
      case measure => simp [intOf]; omega
    · have hke : k = ord.length := by omega
      have hni : ¬ (k : Int) < (ord.length : Int) := by omega
      have Ho := Lib.hid (show OwnI wr w.heap.size 3 (.slice (some ⟨w.heap.size, 0, none⟩) (pickO W ord).length ord.length) (pickO W ord) by
        rw [hke, List.drop_eq_nil_of_le (by simp), List.append_nil, List.take_of_length_le (by rw [pick_len]; exact Nat.le_refl _)] at hown
        rw [pick_len]; exact hown)
      have HP := Lib.hid (h.below hb hhi)
      have Hb := Lib.hid hb
      clear hown hb
      have hpl := Lib.hid (pick_len W ord)
      obtain ⟨R, hR⟩ : ∃ R, R = pickO W ord := ⟨_, rfl⟩
      rw [← hR] at Ho hpl HEN
      have HR := Lib.hid hR
      go_wp2_with fail
      rw [← hpl.out]
      refine (SplicesOf_any lo hi _ _ _ _ P R wr HP.out (by omega) (by have := Ho.out.ints; rw [hpl.out] at this ⊢; exact this) (Nat.le_refl _) HEN.out).mono ?_
      rintro e w2 ⟨v2, ys, rfl, ho2, hs2, hb2⟩
      have hfo := ho2.form
      obtain ⟨A2, c2, rfl, hc2, hm9⟩ := hfo
      have hyl : ys.length ≤ 60 := by have := hs2.1; have := hpl.out; omega
      have Hyb := Lib.hid (show ∀ i, i < ys.length → -1000 ≤ gi ys i ∧ gi ys i ≤ 1000 from fun i hi => by have := hs2.2.2 i (by rw [← hs2.1]; exact hi); omega)
      have HSum := Lib.hid (show sumI ys ys.length = cSpl P W ord by rw [sumI_sum, hs2.2.1, cSpl, hR])
      have HBB := Lib.hid (Hb.out.trans (hb2.mono hzr))
      have HI2 := Lib.hid ho2.ints
      clear hs2 ho2 hb2
      go_wp2_with fail
      refine (sumOf_anyS _ _ _ ys w2 HI2.out (by omega) Hyb.out).mono ?_
      rintro e w3 ⟨rfl, rfl⟩
      rw [HSum.out]
      clear hyl Hyb HSum HI2
      go_wp2
      go_ret
      exact ⟨rfl, HBB.out⟩
set_option maxRecDepth 100000 in
set_option maxHeartbeats 2000000 in
theorem firstLeastS_any (base s : Nat) (v : Value) (L : List (List Int)) (c : List Int → Int) (p1 p2 : Value) (w : World) (h : OwnR w base s 22 3 v L) (hs : s ≤ w.heap.size) (hn : (∀ o ∈ L, o ≠ []) ∨ L.length ≤ 1) (hl : L.length ≤ 100000)
    (hcall : ∀ (w' : World) (x : Value) (o : List Int), Below w.heap.size w w' → OwnI w' base 3 x o → o ∈ L → Calls Try.prog 51 #[x, p1, p2] w' fun e w'' => e = .returned (.int .i64 (c o)) ∧ Below w'.heap.size w' w'') :
    Calls Try.prog 49 #[v, .func (.func 51) #[] #[p1, p2]] w fun e w' => ∃ v', e = .returned v' ∧ OwnI w' base 3 v' (firstO c [] L) ∧ Below w.heap.size w w' := by
  obtain ⟨A, cc, rfl, hc, hm⟩ := h.form
  have HN := Lib.hid hn
  have HC := Lib.hid hcall
  clear hn hcall
  go_enter Try.func49, Try.ntmps49
  go_wp2
  go_loopw [5, 6, 7, 8, 9, 12] (fun b le _ _ _ i wr => ∃ (k : Nat) (m : Int), k ≤ L.length ∧ i = .int .i64 k ∧ le = .int .i64 m ∧ OwnI wr base 3 b (firstO c [] (L.take k)) ∧ Below w.heap.size w wr ∧ Hid (k = 0 ∨ m = c (firstO c [] (L.take k)))) (fun _ _ _ _ _ i _ => L.length - (intOf i).toNat)
  case atStart => exact ⟨0, 0, Nat.zero_le _, rfl, rfl, OwnI.nil _ _ _, Below.refl _ _, .inl rfl⟩
  case round =>
    obtain ⟨k, m, hk, rfl, rfl, hown, hb, HM⟩ := hrel
    have hfo := hown.form
    obtain ⟨A3, c3, rfl, _, _⟩ := hfo
    by_cases hlt : k < L.length
    · have hL := h.kept (.of_below hb hs)
      obtain ⟨g, Ai, ci, rfl, hgl, hgh, hcell, hci, hmi, hoi, hbs, _⟩ := hL.rowAt (r := k) (by decide) hlt
      obtain ⟨o, ho⟩ : ∃ o, o = gr L k := ⟨_, rfl⟩
      rw [← ho] at hcell hci hoi
      have hk0 : (0 : Int) ≤ (k : Int) := by omega
      have hk1 : (k : Int) < (L.length : Int) := by omega
      have Hb := Lib.hid hb
      have Hown := Lib.hid hown
      have Hoi := Lib.hid hoi
      have hom : o ∈ L := by rw [ho]; exact gr_mem hlt
      have HF := Lib.hid (show firstO c [] (L.take (k + 1)) = stepO c (firstO c [] (L.take k)) o by rw [take_gr hlt, firstO_append, ho]; rfl)
      have HN2 := Lib.hid (show 0 < k → firstO c [] (L.take k) ≠ [] from fun h0 => by
        have h1 : ∀ o ∈ L, o ≠ [] := HN.out.elim id fun h => absurd h (by omega)
        exact (firstO_step (c := c) (l := L.take k) (by intro e; have := congrArg List.length e; rw [List.length_take, List.length_nil] at this; omega) (fun y hy => h1 y (List.mem_of_mem_take hy)) []).2)
      clear hown hoi hb ho hL hbs
      go_wp2_with fail
      refine (HC.out wr _ o Hb.out Hoi.out hom).mono ?_
      rintro e w2 ⟨rfl, hb2⟩
      have HB2 := Lib.hid (Hb.out.trans (hb2.mono Hb.out.size))
      have Hown2 := Lib.hid (Hown.out.kept (.of_below hb2 (Nat.le_refl _)))
      have Hoi2 := Lib.hid (Hoi.out.kept (.of_below hb2 (Nat.le_refl _)))
      obtain ⟨x, hx⟩ : ∃ x, x = c o := ⟨_, rfl⟩
      rw [← hx]
      have Hx := Lib.hid hx
      clear hx hom Hown Hoi hcell hb2
      by_cases h0 : k = 0
      · have h0i : ((k : Int) == 0) = true := beq_t (by omega)
        have HR := Lib.hid (show firstO c [] (L.take (k + 1)) = o by
          rw [HF.out, show L.take k = [] by rw [h0]; rfl]
          show stepO c [] o = o
          unfold stepO; exact if_pos (.inl rfl))
        have H0 := Lib.hid h0
        clear h0
        go_wp2
        go_roundw
        case rel => exact ⟨k + 1, x, hlt, by go_num, rfl, by rw [HR.out]; exact Hoi2.out, HB2.out, .inr (by rw [HR.out]; exact Hx.out)⟩
        case measure => simp [intOf]; omega
      · have h0i : ((k : Int) == 0) = false := beq_f (by omega)
        have HMm := Lib.hid (show m = c (firstO c [] (L.take k)) from HM.out.resolve_left h0)
        have hne := HN2.out (by omega)
        have Hne := Lib.hid hne
        clear hne
        by_cases hlm : x < m
        · have HR := Lib.hid (show firstO c [] (L.take (k + 1)) = o by
            rw [HF.out]
            unfold stepO
            exact if_pos (.inr (by rw [← HMm.out, ← Hx.out]; exact hlm)))
          go_wp2
          go_roundw
          case rel => exact ⟨k + 1, x, hlt, by go_num, rfl, by rw [HR.out]; exact Hoi2.out, HB2.out, .inr (by rw [HR.out]; exact Hx.out)⟩
          case measure => simp [intOf]; omega
        · have HR := Lib.hid (show firstO c [] (L.take (k + 1)) = firstO c [] (L.take k) by
            rw [HF.out]
            unfold stepO
            exact if_neg fun h => h.elim Hne.out fun h => hlm (by rw [HMm.out, Hx.out]; exact h))
          go_wp2
          go_roundw
          case rel => exact ⟨k + 1, m, hlt, by go_num, rfl, by rw [HR.out]; exact Hown2.out, HB2.out, .inr (by rw [HR.out]; exact HMm.out)⟩
          case measure => simp [intOf]; omega
    · have hke : k = L.length := by omega
      have hni : ¬ (k : Int) < (L.length : Int) := by omega
      have Ho := Lib.hid (show OwnI wr base 3 (.slice A3 (firstO c [] L).length c3) (firstO c [] L) by
        rw [hke, List.take_length] at hown; exact hown)
      have Hb := Lib.hid hb
      clear hown hb
      go_wp2
      go_ret
      exact ⟨_, rfl, Ho.out, Hb.out⟩
/-- the order with the fewest splices -/
def lsL (P W : List Int) : List Int := if enL P W 0 = true ∧ W.length ≤ 5 then bestO (cSpl P W) W.length W.length [] else []
theorem begun_nil (n : Nat) : Begun n [] := ⟨List.nodup_nil, fun x hx => absurd hx (by simp)⟩
theorem best_first (c : List Int → Int) (n : Nat) : bestO c n n [] = firstO c [] (allO n n []) := by
  rcases Nat.eq_zero_or_pos n with h | h
  · subst h; show [] = stepO c [] []; unfold stepO; simp
  · exact (best_all c h n [] (begun_nil n) (by simp)).1
theorem all_begun {n : Nat} : ∀ o ∈ allO n n [], o.length = n ∧ Begun n o := fun o ho => by
  rcases Nat.eq_zero_or_pos n with h | h
  · subst h
    have : o = [] := by simpa [allO] using ho
    subst this; exact ⟨rfl, begun_nil 0⟩
  · exact (best_all (fun _ => 0) h n [] (begun_nil n) (by simp)).2.2 o ho
theorem all_some {n : Nat} : (∀ o ∈ allO n n [], o ≠ []) ∨ (allO n n []).length ≤ 1 := by
  rcases Nat.eq_zero_or_pos n with h | h
  · subst h; exact .inr (by simp [allO])
  · exact .inl fun o ho e => by have := (all_begun o ho).1; rw [e] at this; simp at this; omega
set_option maxRecDepth 100000 in
set_option maxHeartbeats 2000000 in
theorem LeastSpliced_any (lo hi l2 h2 : Nat) (v u : Value) (P W : List Int) (w : World) (h : Ints w lo hi v P) (hhi : hi ≤ w.heap.size) (hy : Ints w l2 h2 u W) (hh2 : h2 ≤ w.heap.size) :
    Calls Try.prog 14 #[v, u] w fun e w' => ∃ v', e = .returned v' ∧ OwnI w' w.heap.size 3 v' (lsL P W) ∧ Below w.heap.size w w' := by
  have hmf : ∀ (fn : Fn) (first cap : Array Value) (w : World), (Instr.makeFunc fn first cap).run Try.prog w = .ok (.func fn first cap) w := fun _ _ _ _ => rfl
  obtain ⟨A, c, rfl, hc, hm⟩ := h.form
  obtain ⟨B, d, rfl, hd, hm2⟩ := hy.form
  have Hs := Lib.hid (show ∃ w1, w1 = ((w.alloc (.cells #[.slice A P.length c] 22)).alloc (.cells #[.slice B W.length d] 22)) ∧ Below w.heap.size w w1 ∧ w1.cell? ⟨w.heap.size, 0, none⟩ = some (.slice A P.length c) ∧ w1.cell? ⟨w.heap.size + 1, 0, none⟩ = some (.slice B W.length d) ∧ Ints w1 lo hi (.slice A P.length c) P ∧ Ints w1 l2 h2 (.slice B W.length d) W ∧ w.heap.size + 1 < w1.heap.size from by
    have hb : Below w.heap.size w ((w.alloc (.cells #[.slice A P.length c] 22)).alloc (.cells #[.slice B W.length d] 22)) := ((Below.refl _ _).alloc (Nat.le_refl _) _).alloc (by simp) _
    exact ⟨_, rfl, hb, by go_simp, by go_simp, h.below hb hhi, hy.below hb hh2, by simp⟩)
  go_enter Try.func14, Try.ntmps14
  go_wp2_with (fail)
  obtain ⟨w1, hw1, hb0, c00, c10, hT0, hT1, hz⟩ := Hs.out
  rw [← hw1]
  clear hw1 Hs
  refine (longEnough_any lo hi l2 h2 _ _ P W 0 w1 hT0 hT1).mono ?_
  rintro e x1 ⟨rfl, rfl⟩
  cases hen : enL P W 0
  · have HR := Lib.hid (show lsL P W = [] by unfold lsL; rw [hen]; simp)
    have Hb0 := Lib.hid hb0
    clear hT0 hT1 h hy hb0
    go_wp2
    go_ret
    exact ⟨_, rfl, by rw [HR.out]; exact OwnI.nil _ _ _, Hb0.out⟩
  · by_cases hl : W.length ≤ 5
    · have hl' : ¬ (5 : Int) < (W.length : Int) := by omega
      have HR := Lib.hid (show lsL P W = firstO (cSpl P W) [] (allO W.length W.length []) by unfold lsL; rw [hen, if_pos ⟨rfl, hl⟩, best_first])
      have HT0 := Lib.hid hT0
      have HT1 := Lib.hid hT1
      have Hb0 := Lib.hid hb0
      clear hT0 hT1 h hy hb0
      go_wp2_with fail
      refine (allOrders_any W.length hl w1).mono ?_
      rintro e w2 ⟨v2, rfl, ho2, hb2⟩
      have HO2 := Lib.hid ho2
      have HB2 := Lib.hid hb2
      have hz2 := hb2.size
      clear ho2 hb2
      go_wp2_with fail
      refine (firstLeastS_any w1.heap.size w2.heap.size v2 _ (cSpl P W) _ _ w2 HO2.out (Nat.le_refl _) all_some (by have := allO_small hl; omega) (fun w' x o hb ho hm => ?_)).mono ?_
      · have hbo := HB2.out.trans (hb.mono hz2)
        have hao := all_begun o hm
        exact costS_any lo hi l2 h2 _ _ _ _ _ _ _ P W o w' (HT0.out.below hbo (by omega)) (by have := hbo.size; omega) (HT1.out.below hbo (by omega)) (by have := hbo.size; omega) ho.ints (Nat.le_refl _) (keepB hbo c00) (keepB hbo c10) hen hao.2 hao.1
      · rintro e w3 ⟨v3, rfl, ho3, hb3⟩
        have HO3 := Lib.hid ho3
        have HB3 := Lib.hid hb3
        clear ho3 hb3
        go_wp2
        go_ret
        exact ⟨_, rfl, by rw [HR.out]; exact HO3.out.base (by omega), Hb0.out.trans ((HB2.out.trans (HB3.out.mono hz2)).mono (by omega))⟩
    · have hl' : (5 : Int) < (W.length : Int) := by omega
      have HR := Lib.hid (show lsL P W = [] by unfold lsL; rw [if_neg fun h => hl h.2])
      have Hb0 := Lib.hid hb0
      clear hT0 hT1 h hy hb0
      go_wp2
      go_ret
      exact ⟨_, rfl, by rw [HR.out]; exact OwnI.nil _ _ _, Hb0.out⟩
end Go.Proofs.Yteckjiaaikdghaa
