/-
  Lemmas and contracts of single functions of this program, used by the proofs of its laws: what each call returns and what becomes of memory. Conditions: the hypotheses of each theorem.
-/
import Derived.Test.YteckjiaaikdghaaGrdT
import Derived.Test.YteckjiaaikdghaaLsS
import Derived.Test.YteckjiaaikdghaaKniU
namespace Go.Proofs.Yteckjiaaikdghaa
open Go.RowKit
attribute [local go_sem ↓] Go.wp_at_zero Go.wp_at_succ

/-- the first k widths, the widest first -/
def DescN (ws : List Int) (k : Nat) (K : List Nat) : Prop := OrdG k K ∧ K.Pairwise fun a b => gi ws b < gi ws a
theorem desc_ins {W : Int} {ws : List Int} (hv : vWid W ws = true) {k m : Nat} {K : List Nat} (hk : k < ws.length) (h : DescN ws k K) (hm : m ≤ K.length) (hlow : ∀ x ∈ K.drop m, gi ws x < gi ws k) (hhigh : ∀ i, m = i + 1 → ¬ gi ws (K.getD i 0) < gi ws k) : DescN ws (k + 1) (K.take m ++ k :: K.drop m) := by
  obtain ⟨⟨hn, hmem⟩, hp⟩ := h
  have hperm : (K.take m ++ k :: K.drop m).Perm (k :: K) := by
    have := List.perm_middle (a := k) (l₁ := K.take m) (l₂ := K.drop m)
    rwa [List.take_append_drop] at this
  have hkn : k ∉ K := fun h => by have := (hmem k).1 h; omega
  have hhi : ∀ x ∈ K.take m, gi ws k < gi ws x := fun x hx => by
    obtain ⟨p, hpl, rfl⟩ := List.mem_take_iff_getElem.1 hx
    have hpm : p < m ∧ p < K.length := by omega
    obtain ⟨i, hi⟩ : ∃ i, m = i + 1 := ⟨m - 1, by omega⟩
    have hiK : i < K.length := by omega
    have h1 := hhigh i hi
    rw [List.getD_eq_getElem?_getD, List.getElem?_eq_getElem hiK, Option.getD_some] at h1
    have h2 := (hmem K[i]).1 (List.getElem_mem hiK)
    have h3 := wid_ne hv (i := K[i]) (j := k) (by omega) hk (by omega)
    rcases Nat.lt_or_ge p i with hlt | hge
    · have := List.pairwise_iff_getElem.1 hp p i hpm.2 hiK hlt
      omega
    · have hpi : p = i := by omega
      subst hpi
      omega
  refine ⟨⟨hperm.nodup_iff.2 (List.nodup_cons.2 ⟨hkn, hn⟩), fun i => ?_⟩, ?_⟩
  · rw [hperm.mem_iff, List.mem_cons, hmem]; omega
  · refine List.pairwise_append.2 ⟨hp.sublist (List.take_sublist m K), List.pairwise_cons.2 ⟨hlow, hp.sublist (List.drop_sublist m K)⟩, fun a ha b hb => ?_⟩
    rcases List.mem_cons.1 hb with rfl | hb
    · exact hhi a ha
    · have := hhi a ha; have := hlow b hb; omega
theorem Ints.dropW {w : World} {lo hi n c b o : Nat} {xs : List Int} (h : Ints w lo hi (.slice (some ⟨b, o, none⟩) n c) xs) {i : Nat} (hi' : i ≤ xs.length) : Ints w lo hi (.slice (some ⟨b, o + i, none⟩) (n - i) (c - i)) (xs.drop i) := by
  obtain ⟨A', c', e, hc, hm, ⟨hl, hr⟩, h64⟩ := h
  obtain ⟨rfl, rfl, rfl⟩ : some ⟨b, o, none⟩ = A' ∧ n = xs.length ∧ c = c' := by simpa using e
  refine ⟨_, _, by rw [List.length_drop], by rw [List.length_drop]; omega, by omega, ⟨by simp, fun h0 => ?_⟩, fun x hx => h64 x (List.mem_of_mem_drop hx)⟩
  rw [List.length_drop] at h0
  obtain ⟨b', o', e2, h1, h2, h3⟩ := hr (by omega)
  simp only [Option.some.injEq, Addr.mk.injEq, and_true] at e2
  obtain ⟨rfl, rfl⟩ := e2
  refine ⟨b, o + i, rfl, h1, h2, fun j u hu => ?_⟩
  have := h3 (i + j) u (by rw [← hu]; simp [List.getElem?_drop])
  rw [← Nat.add_assoc] at this
  exact this
theorem DescN.len {ws : List Int} {k : Nat} {K : List Nat} (h : DescN ws k K) : K.length = k := ordG_len h.1
set_option maxRecDepth 100000 in
set_option maxHeartbeats 4000000 in
theorem widest_any (lo hi : Nat) (v : Value) (W : Int) (ws : List Int) (w : World) (hv : vWid W ws = true) (h : Ints w lo hi v ws) (hhi : hi ≤ w.heap.size) :
    Calls Try.prog 99 #[v] w fun e w' => ∃ v', e = .returned v' ∧ OwnI w' w.heap.size 3 v' (idxI (kOrd ws)) ∧ Below w.heap.size w w' := by
  obtain ⟨A, c, rfl, hc, hm⟩ := h.form
  have hn6 : ws.length ≤ 6 := (vWid_iff.1 hv).2.2.2.1
  have HV := Lib.hid hv
  have HH := Lib.hid h
  have HO0 := Lib.hid (OwnI.empty w w.heap.size 3 (Nat.le_refl _))
  have HB0 := Lib.hid ((Below.refl w.heap.size w).alloc (Nat.le_refl _) (.cells #[] 3))
  clear hv h
  go_enter Try.func99, Try.ntmps99
  go_wp2_with fail
  go_loopw [3, 4, 5, 6] (fun o i _ _ wr => ∃ (k g d : Nat) (K : List Nat), k ≤ ws.length ∧ i = .int .i64 k ∧ o = .slice (some ⟨g, 0, none⟩) k d ∧ Hid (OwnI wr w.heap.size 3 (.slice (some ⟨g, 0, none⟩) k d) (idxI K)) ∧ Hid (Below w.heap.size w wr) ∧ Hid (DescN ws k K)) (fun _ i _ _ _ => ws.length - (intOf i).toNat)
  case atStart => exact ⟨0, w.heap.size, 0, [], Nat.zero_le _, rfl, rfl, HO0.out, HB0.out, ⟨⟨List.nodup_nil, fun i => by simp⟩, List.Pairwise.nil⟩⟩
  case round =>
    obtain ⟨k, g, d, K, hk, rfl, rfl, HO, HB, HD⟩ := hrel
    clear HO0 HB0
    by_cases hlt : k < ws.length
    rotate_left
    · have hnk : ¬ (k : Int) < (ws.length : Int) := by omega
      have HR := Lib.hid (show OwnI wr w.heap.size 3 (.slice (some ⟨g, 0, none⟩) k d) (idxI (kOrd ws)) by
        have h1 := HD.out
        rw [show k = ws.length by omega] at h1
        rw [← desc_unique h1 (kOrd_desc HV.out)]; exact HO.out)
      go_wp2
      go_ret
      exact ⟨_, rfl, HR.out, HB.out⟩
    have hk1 : (k : Int) < (ws.length : Int) := by omega
    have hk0 : (0 : Int) ≤ (k : Int) := by omega
    have HKL := Lib.hid HD.out.len
    go_wp2
    go_loopw [5] (fun a wx => ∃ m : Nat, m ≤ k ∧ a = .int .i64 m ∧ Hid (OwnI wx w.heap.size 3 (.slice (some ⟨g, 0, none⟩) k d) (idxI K)) ∧ Hid (Below w.heap.size w wx) ∧ Hid (∀ x ∈ K.drop m, gi ws x < gi ws k)) (fun a _ => (intOf a).toNat)
    case atStart => exact ⟨k, Nat.le_refl _, rfl, HO.out, HB.out, fun x hx => by rw [List.drop_eq_nil_of_le (by have := HKL.out; omega)] at hx; cases hx⟩
    case round =>
      obtain ⟨m, hm, rfl, HOx, HBx, HLo⟩ := hrel
      clear HO HB
      obtain ⟨wx, rfl⟩ : ∃ wx : World, wx = wr := ⟨_, rfl⟩
      obtain ⟨b, oo, hA, hbl, hbh, ck, _⟩ := (HH.out.below HBx.out hhi).cell hlt
      subst hA
      have ha := vWid_w HV.out hlt
      by_cases hm0 : 0 < m
      rotate_left
      · have hn0 : ¬ (m : Int) > 0 := by omega
        have HNew := Lib.hid (desc_ins HV.out (m := m) hlt HD.out (by have := HKL.out; omega) HLo.out (fun i hi => by omega))
        have hcells := ck
        go_wp2
        refine wp_region_held_drew (S := fun w' => w'.cell? ⟨b, oo + k, none⟩ = some (.int .i64 (gi ws k))) (by kernel_rfl) ?_ (fun hHeld => ?_)
        · (first | (try dsimp only); go_keep | (first | exact keepB bx5 (by assumption) | exact keepB bx4 (by assumption) | exact keepB bx3 (by assumption) | exact keepB bx2 (by assumption) | exact keepB bx1 (by assumption) | exact keepO bo5 (by first | (simp; done) | (simp; omega)) (by assumption) | exact keepO bo4 (by first | (simp; done) | (simp; omega)) (by assumption) | exact keepO bo3 (by first | (simp; done) | (simp; omega)) (by assumption) | exact keepO bo2 (by first | (simp; done) | (simp; omega)) (by assumption) | exact keepO bo1 (by first | (simp; done) | (simp; omega)) (by assumption) | exact keepW bg2 (by first | (simp; done) | (simp; omega)) (by assumption) | exact keepW bg1 (by first | (simp; done) | (simp; omega)) (by assumption)))
        refine wpAnyH_take (i := 0) (oi := ⟨some 16, _, _, _, _, _⟩) (v := _) rfl (by kernel_rfl) (by kernel_rfl) (by kernel_rfl) (fun _ _ _ h => h) (Or.inl ⟨by kernel_rfl, by intro w hSw; (try dsimp only at hSw); go_simp; try with_reducible rfl⟩) (by assumption) ?_
        simp only [Act.put, List.setIfInBounds_toArray, List.set_cons_zero, List.set_cons_succ]
        refine wpAnyH_take (i := 1) (oi := ⟨some 17, _, _, _, _, _⟩) (v := _) rfl (by kernel_rfl) (by kernel_rfl) (by kernel_rfl) (fun _ _ _ h => h) (Or.inl ⟨by kernel_rfl, by intro w hSw; (try dsimp only at hSw); go_simp; try with_reducible rfl⟩) (by assumption) ?_
        simp only [Act.put, List.setIfInBounds_toArray, List.set_cons_zero, List.set_cons_succ]
        refine wpAnyH_take (i := 2) (oi := ⟨some 18, _, _, _, _, _⟩) (v := _) rfl (by kernel_rfl) (by kernel_rfl) (by kernel_rfl) (fun _ _ _ h => h) (Or.inl ⟨by kernel_rfl, by intro w hSw; (try dsimp only at hSw); go_simp; try with_reducible rfl⟩) (by assumption) ?_
        simp only [Act.put, List.setIfInBounds_toArray, List.set_cons_zero, List.set_cons_succ]
        refine wpAnyH_take (i := 3) (oi := ⟨some 19, _, _, _, _, _⟩) (v := undef) rfl (by kernel_rfl) (by kernel_rfl) (by kernel_rfl) (fun _ _ _ h => h) (Or.inr ⟨by kernel_rfl, rfl⟩) (by assumption) ?_
        simp only [Act.put, List.setIfInBounds_toArray, List.set_cons_zero, List.set_cons_succ]
        refine wpAnyH_take (i := 4) (oi := ⟨some 20, _, _, _, _, _⟩) (v := undef) rfl (by kernel_rfl) (by kernel_rfl) (by kernel_rfl) (fun _ _ _ h => h) (Or.inr ⟨by kernel_rfl, rfl⟩) (by assumption) ?_
        simp only [Act.put, List.setIfInBounds_toArray, List.set_cons_zero, List.set_cons_succ]
        refine wpAnyH_take (i := 5) (oi := ⟨some 21, _, _, _, _, _⟩) (v := undef) rfl (by kernel_rfl) (by kernel_rfl) (by kernel_rfl) (fun _ _ _ h => h) (Or.inr ⟨by kernel_rfl, rfl⟩) (by assumption) ?_
        simp only [Act.put, List.setIfInBounds_toArray, List.set_cons_zero, List.set_cons_succ]
        refine wpAnyH_take (i := 6) (oi := ⟨some 22, _, _, _, _, _⟩) (v := undef) rfl (by kernel_rfl) (by kernel_rfl) (by kernel_rfl) (fun _ _ _ h => h) (Or.inr ⟨by kernel_rfl, rfl⟩) (by assumption) ?_
        simp only [Act.put, List.setIfInBounds_toArray, List.set_cons_zero, List.set_cons_succ]
        refine wpAnyH_take (i := 7) (oi := ⟨some 23, _, _, _, _, _⟩) (v := undef) rfl (by kernel_rfl) (by kernel_rfl) (by kernel_rfl) (fun _ _ _ h => h) (Or.inr ⟨by kernel_rfl, rfl⟩) (by assumption) ?_
        simp only [Act.put, List.setIfInBounds_toArray, List.set_cons_zero, List.set_cons_succ]
        refine wpAnyH_take (i := 8) (oi := ⟨some 24, _, _, _, _, _⟩) (v := undef) rfl (by kernel_rfl) (by kernel_rfl) (by kernel_rfl) (fun _ _ _ h => h) (Or.inr ⟨by kernel_rfl, rfl⟩) (by assumption) ?_
        simp only [Act.put, List.setIfInBounds_toArray, List.set_cons_zero, List.set_cons_succ]
        refine wpAnyH_take (i := 9) (oi := ⟨some 25, _, _, _, _, _⟩) (v := undef) rfl (by kernel_rfl) (by kernel_rfl) (by kernel_rfl) (fun _ _ _ h => h) (Or.inr ⟨by kernel_rfl, rfl⟩) (by assumption) ?_
        simp only [Act.put, List.setIfInBounds_toArray, List.set_cons_zero, List.set_cons_succ]
        refine wpAnyH_take (i := 10) (oi := ⟨some 26, _, _, _, _, _⟩) (v := undef) rfl (by kernel_rfl) (by kernel_rfl) (by kernel_rfl) (fun _ _ _ h => h) (Or.inr ⟨by kernel_rfl, rfl⟩) (by assumption) ?_
        simp only [Act.put, List.setIfInBounds_toArray, List.set_cons_zero, List.set_cons_succ]
        refine wpAnyH_take (i := 11) (oi := ⟨some 27, _, _, _, _, _⟩) (v := undef) rfl (by kernel_rfl) (by kernel_rfl) (by kernel_rfl) (fun _ _ _ h => h) (Or.inr ⟨by kernel_rfl, rfl⟩) (by assumption) ?_
        simp only [Act.put, List.setIfInBounds_toArray, List.set_cons_zero, List.set_cons_succ]
        refine wpAnyH_take (i := 12) (oi := ⟨some 28, _, _, _, _, _⟩) (v := undef) rfl (by kernel_rfl) (by kernel_rfl) (by kernel_rfl) (fun _ _ _ h => h) (Or.inr ⟨by kernel_rfl, rfl⟩) (by assumption) ?_
        simp only [Act.put, List.setIfInBounds_toArray, List.set_cons_zero, List.set_cons_succ]
        refine wpAnyH_take (i := 13) (oi := ⟨some 29, _, _, _, _, _⟩) (v := undef) rfl (by kernel_rfl) (by kernel_rfl) (by kernel_rfl) (fun _ _ _ h => h) (Or.inr ⟨by kernel_rfl, rfl⟩) (by assumption) ?_
        simp only [Act.put, List.setIfInBounds_toArray, List.set_cons_zero, List.set_cons_succ]
        refine wpAnyH_take (i := 14) (oi := ⟨some 30, _, _, _, _, _⟩) (v := undef) rfl (by kernel_rfl) (by kernel_rfl) (by kernel_rfl) (fun _ _ _ h => h) (Or.inr ⟨by kernel_rfl, rfl⟩) (by assumption) ?_
        simp only [Act.put, List.setIfInBounds_toArray, List.set_cons_zero, List.set_cons_succ]
        refine wpAnyH_take (i := 15) (oi := ⟨some 31, _, _, _, _, _⟩) (v := undef) rfl (by kernel_rfl) (by kernel_rfl) (by kernel_rfl) (fun _ _ _ h => h) (Or.inr ⟨by kernel_rfl, rfl⟩) (by assumption) ?_
        simp only [Act.put, List.setIfInBounds_toArray, List.set_cons_zero, List.set_cons_succ]
        refine wpAnyH_take (i := 16) (oi := ⟨some 32, _, _, _, _, _⟩) (v := _) rfl (by kernel_rfl) (by kernel_rfl) (by kernel_rfl) (fun _ _ _ h => h) (Or.inl ⟨by kernel_rfl, by intro w hSw; (try dsimp only at hSw); go_simp; try with_reducible rfl⟩) (by assumption) ?_
        simp only [Act.put, List.setIfInBounds_toArray, List.set_cons_zero, List.set_cons_succ]
        refine wpAnyH_done (by kernel_rfl) ?_ _
        clear hHeld
        obtain ⟨wd, hwd⟩ : ∃ wd, wd = wx.drew := ⟨_, rfl⟩
        have HOd := Lib.hid (show OwnI wd w.heap.size 3 (.slice (some ⟨g, 0, none⟩) k d) (idxI K) by rw [hwd]; exact HOx.out.drew)
        have HBd := Lib.hid (show Below w.heap.size w wd by rw [hwd]; exact HBx.out.drew)
        rw [← hwd]
        clear hwd HOx HBx ck hcells
        have hkd : k ≤ d := by obtain ⟨_, _, e, h1, _⟩ := HOd.out.form; injection e with _ e1 e2; have := HKL.out; rw [idxI_len] at h1; omega
        have hml : (m : Int) ≤ (k : Int) := by omega
        have hkdi : (k : Int) ≤ (d : Int) := by omega
        have hsplit : idxI K = idxI (K.take m) ++ idxI (K.drop m) := by unfold idxI; rw [← List.map_append, List.take_append_drop]
        have hgd := (HOd.out.lt g rfl).2
        have hzd := HBd.out.size
        have hklI : (idxI K).length = k := by rw [idxI_len]; exact HKL.out
        have htl : (idxI (K.take m)).length = m := by rw [idxI_len, List.length_take]; have := HKL.out; omega
        have HDR := Lib.hid (show Ints wd w.heap.size wd.heap.size (.slice (some ⟨g, m, none⟩) (k - m) (d - m)) (idxI (K.drop m)) by
          have h1 := HOd.out.ints.dropW (i := m) (by omega)
          rw [Nat.zero_add] at h1
          have e : (idxI K).drop m = idxI (K.drop m) := by unfold idxI; rw [List.map_drop]
          rw [e] at h1; exact h1)
        have HPR := Lib.hid (show OwnI wd w.heap.size 3 (.slice (some ⟨g, 0, none⟩) m d) (idxI (K.take m)) by
          have h1 := HOd.out
          rw [hsplit] at h1
          have h2 := h1.prefix2
          rw [htl] at h2; exact h2)
        have HDZ := Lib.hid (show d = m → Ints wd w.heap.size wd.heap.size (.slice (some ⟨g, 0, none⟩) (k - m) 0) (idxI (K.drop m)) from fun hdm => by
          have e : idxI (K.drop m) = [] := by rw [List.drop_eq_nil_of_le (by have := HKL.out; omega)]; rfl
          rw [e, show k - m = 0 by omega]
          exact ⟨_, _, rfl, Nat.le_refl _, by omega, ⟨rfl, fun h0 => absurd h0 (by simp)⟩, fun x hx => by cases hx⟩)
        have hdl : (idxI (K.drop m)).length = k - m := by rw [idxI_len, List.length_drop]; have := HKL.out; omega
        have HTL := Lib.hid htl
        have HDL := Lib.hid hdl
        clear hsplit hklI htl hdl HOd
        go_wp2_with fail
        all_goals
          try (have hdm : m = d := (by omega); subst hdm)
          first | refine (copyIntsR_any _ _ _ (idxI (K.drop m)) wd HDR.out (Nat.le_refl _) (by have := HDL.out; omega)).mono ?_ | refine (copyIntsR_any _ _ _ (idxI (K.drop m)) wd (HDZ.out rfl) (Nat.le_refl _) (by have := HDL.out; omega)).mono ?_
          rintro e w2 ⟨v2, rfl, ho2, hb2⟩
          have HP2 := Lib.hid (HPR.out.keptBlock (w' := w2) fun g' hg' => hb2.block g' (by simp [Value.ownBlock] at hg'; omega))
          have H2 := Lib.hid ho2
          have HB2 := Lib.hid (HBd.out.trans (hb2.mono hzd))
          have hz2 := hb2.size
          clear ho2 hb2 HDR HDZ HPR HBd
          go_wp2_with (at_builtin; go_loud (first | (refine wpList_appendI SlI _ rfl (.tmp 41) (.tmp 43) rfl _ w.heap.size _ (idxI (K.take m)) rfl rfl HP2.out ⟨by omega, by omega⟩ (by have := HTL.out; omega) (by omega) ?_; intro v3 w3 ho3 hg3; have H3 := Lib.hid ho3; have HI3 := Lib.hid (H2.out.ints.kept (w' := w3) (fun j h1 h2 => hg3.other j h2 (fun e => by injection e with e; have e2 : j = g := e; omega))); have HB3 := Lib.hid (HB2.out.trans hg3.below); have hz3 := hg3.below.size; clear ho3 hg3) | (refine wpList_appendIs SlI _ rfl (.tmp 44) (.tmp 45) rfl _ _ _ w.heap.size _ (idxI (K.take m) ++ [(k : Int)]) (idxI (K.drop m)) rfl rfl H3.out HI3.out (by rw [List.length_append, List.length_singleton]; have := HTL.out; have := HDL.out; omega) (by omega) ?_; intro v4 w4 ho4 hg4; have H4 := Lib.hid ho4; have HB4 := Lib.hid (HB3.out.trans hg4.below); clear ho4 hg4)))
          have e4 : idxI (K.take m) ++ [(k : Int)] ++ idxI (K.drop m) = idxI (K.take m ++ k :: K.drop m) := by simp [idxI]
          rw [e4] at H4
          have hln : (idxI (K.take m ++ k :: K.drop m)).length = k + 1 := by rw [idxI_len]; exact HNew.out.len
          obtain ⟨A4, d4, hv4, _, _⟩ := H4.out.form
          subst hv4
          obtain ⟨g4, hg4, _⟩ := H4.out.at_ (i := 0) (by omega)
          subst hg4
          rw [hln] at H4 ⊢
          go_roundw
          case rel => exact ⟨k + 1, g4, d4, _, hlt, by go_num, rfl, H4.out, HB4.out, HNew.out⟩
          case measure => simp [intOf]; omega
      have hn0 : (m : Int) > 0 := by omega
      obtain ⟨m', hm'⟩ : ∃ m', m = m' + 1 := ⟨m - 1, by omega⟩
      have hmK : m' < K.length := by have := HKL.out; omega
      obtain ⟨kk, hkk⟩ : ∃ k, k = K[m'] := ⟨_, rfl⟩
      have hkn : kk < k := by rw [hkk]; exact (HD.out.1.2 _).1 (List.getElem_mem hmK)
      have hkw : kk < ws.length := by omega
      have co := HOx.out.ints.cell' (k := m') (by rw [idxI_len]; exact hmK)
      rw [Nat.zero_add, gi_idxI hmK, ← hkk] at co
      have cw := (HH.out.below HBx.out hhi).cell' hkw
      obtain ⟨x, hx⟩ : ∃ x, x = gi ws kk := ⟨_, rfl⟩
      obtain ⟨y, hy⟩ : ∃ x, x = gi ws k := ⟨_, rfl⟩
      have HLow := Lib.hid (show x < y → ∀ z ∈ K.drop m', gi ws z < gi ws k from fun h z hz => by
        rw [List.drop_eq_getElem_cons hmK] at hz
        rcases List.mem_cons.1 hz with rfl | hz
        · rw [← hkk, ← hx, ← hy]; exact h
        · exact HLo.out z (by rw [hm']; exact hz))
      have HHi := Lib.hid (show ¬ x < y → DescN ws (k + 1) (K.take m ++ k :: K.drop m) from fun h => desc_ins HV.out (m := m) hlt HD.out (by have := HKL.out; omega) HLo.out (fun i hi => by
        have e : i = m' := by omega
        subst e
        rw [List.getD_eq_getElem?_getD, List.getElem?_eq_getElem hmK, Option.getD_some, ← hkk, ← hx, ← hy]; exact h))
      rw [← hx] at cw
      rw [← hy] at ck
      have hmi : (m : Int) - 1 = (m' : Int) := by omega
      have gm : IntKind.i64.wrap (m' : Int) = (m' : Int) := IntWalk.i64_in _ (by omega)
      have i0 : (0 : Int) ≤ (m' : Int) := by omega
      have i1 : (m' : Int) < (k : Int) := by omega
      have i2 : (0 : Int) ≤ (kk : Int) := by omega
      have i3 : (kk : Int) < (ws.length : Int) := by omega
      have HM := Lib.hid hm'
      clear hm' hkk hx hy ha
      by_cases hxy : x < y
      · go_wp2
        refine wp_region_held_drew (S := fun w' => w'.cell? ⟨g, m', none⟩ = some (.int .i64 ((kk : Int))) ∧ w'.cell? ⟨b, oo + kk, none⟩ = some (.int .i64 x) ∧ w'.cell? ⟨b, oo + k, none⟩ = some (.int .i64 y)) (by kernel_rfl) ?_ (fun hHeld => ?_)
        · (first | (try dsimp only); go_keep | (go_split_ands; refine ⟨?_, ?_, ?_⟩ <;> first | exact keepB bx5 (by assumption) | exact keepB bx4 (by assumption) | exact keepB bx3 (by assumption) | exact keepB bx2 (by assumption) | exact keepB bx1 (by assumption) | exact keepO bo5 (by first | (simp; done) | (simp; omega)) (by assumption) | exact keepO bo4 (by first | (simp; done) | (simp; omega)) (by assumption) | exact keepO bo3 (by first | (simp; done) | (simp; omega)) (by assumption) | exact keepO bo2 (by first | (simp; done) | (simp; omega)) (by assumption) | exact keepO bo1 (by first | (simp; done) | (simp; omega)) (by assumption) | exact keepW bg2 (by first | (simp; done) | (simp; omega)) (by assumption) | exact keepW bg1 (by first | (simp; done) | (simp; omega)) (by assumption) | assumption))
        refine wpAnyH_take (i := 0) (oi := ⟨some 16, _, _, _, _, _⟩) (v := _) rfl (by kernel_rfl) (by kernel_rfl) (by kernel_rfl) (fun _ _ _ h => h) (Or.inl ⟨by kernel_rfl, by intro w hSw; (try dsimp only at hSw); go_simp; try with_reducible rfl⟩) (by assumption) ?_
        simp only [Act.put, List.setIfInBounds_toArray, List.set_cons_zero, List.set_cons_succ]
        refine wpAnyH_take (i := 1) (oi := ⟨some 17, _, _, _, _, _⟩) (v := _) rfl (by kernel_rfl) (by kernel_rfl) (by kernel_rfl) (fun _ _ _ h => h) (Or.inl ⟨by kernel_rfl, by intro w hSw; (try dsimp only at hSw); go_simp; try with_reducible rfl⟩) (by assumption) ?_
        simp only [Act.put, List.setIfInBounds_toArray, List.set_cons_zero, List.set_cons_succ]
        refine wpAnyH_take (i := 2) (oi := ⟨some 18, _, _, _, _, _⟩) (v := _) rfl (by kernel_rfl) (by kernel_rfl) (by kernel_rfl) (fun _ _ _ h => h) (Or.inl ⟨by kernel_rfl, by intro w hSw; (try dsimp only at hSw); go_simp; try with_reducible rfl⟩) (by assumption) ?_
        simp only [Act.put, List.setIfInBounds_toArray, List.set_cons_zero, List.set_cons_succ]
        refine wpAnyH_take (i := 3) (oi := ⟨some 19, _, _, _, _, _⟩) (v := _) rfl (by kernel_rfl) (by kernel_rfl) (by kernel_rfl) (fun _ _ _ h => h) (Or.inl ⟨by kernel_rfl, by intro w hSw; (try dsimp only at hSw); go_simp; try with_reducible rfl⟩) (by assumption) ?_
        simp only [Act.put, List.setIfInBounds_toArray, List.set_cons_zero, List.set_cons_succ]
        refine wpAnyH_take (i := 4) (oi := ⟨some 20, _, _, _, _, _⟩) (v := _) rfl (by kernel_rfl) (by kernel_rfl) (by kernel_rfl) (fun _ _ _ h => h) (Or.inl ⟨by kernel_rfl, by intro w hSw; (try dsimp only at hSw); go_simp; try with_reducible rfl⟩) (by assumption) ?_
        simp only [Act.put, List.setIfInBounds_toArray, List.set_cons_zero, List.set_cons_succ]
        refine wpAnyH_take (i := 5) (oi := ⟨some 21, _, _, _, _, _⟩) (v := _) rfl (by kernel_rfl) (by kernel_rfl) (by kernel_rfl) (fun _ _ _ h => h) (Or.inl ⟨by kernel_rfl, by intro w hSw; (try dsimp only at hSw); go_simp; try with_reducible rfl⟩) (by assumption) ?_
        simp only [Act.put, List.setIfInBounds_toArray, List.set_cons_zero, List.set_cons_succ]
        refine wpAnyH_take (i := 6) (oi := ⟨some 22, _, _, _, _, _⟩) (v := _) rfl (by kernel_rfl) (by kernel_rfl) (by kernel_rfl) (fun _ _ _ h => h) (Or.inl ⟨by kernel_rfl, by intro w hSw; (try dsimp only at hSw); go_simp; try with_reducible rfl⟩) (by assumption) ?_
        simp only [Act.put, List.setIfInBounds_toArray, List.set_cons_zero, List.set_cons_succ]
        refine wpAnyH_take (i := 7) (oi := ⟨some 23, _, _, _, _, _⟩) (v := _) rfl (by kernel_rfl) (by kernel_rfl) (by kernel_rfl) (fun _ _ _ h => h) (Or.inl ⟨by kernel_rfl, by intro w hSw; (try dsimp only at hSw); go_simp; try with_reducible rfl⟩) (by assumption) ?_
        simp only [Act.put, List.setIfInBounds_toArray, List.set_cons_zero, List.set_cons_succ]
        refine wpAnyH_take (i := 8) (oi := ⟨some 24, _, _, _, _, _⟩) (v := _) rfl (by kernel_rfl) (by kernel_rfl) (by kernel_rfl) (fun _ _ _ h => h) (Or.inl ⟨by kernel_rfl, by intro w hSw; (try dsimp only at hSw); go_simp; try with_reducible rfl⟩) (by assumption) ?_
        simp only [Act.put, List.setIfInBounds_toArray, List.set_cons_zero, List.set_cons_succ]
        refine wpAnyH_take (i := 9) (oi := ⟨some 25, _, _, _, _, _⟩) (v := _) rfl (by kernel_rfl) (by kernel_rfl) (by kernel_rfl) (fun _ _ _ h => h) (Or.inl ⟨by kernel_rfl, by intro w hSw; (try dsimp only at hSw); go_simp; try with_reducible rfl⟩) (by assumption) ?_
        simp only [Act.put, List.setIfInBounds_toArray, List.set_cons_zero, List.set_cons_succ]
        refine wpAnyH_take (i := 10) (oi := ⟨some 26, _, _, _, _, _⟩) (v := _) rfl (by kernel_rfl) (by kernel_rfl) (by kernel_rfl) (fun _ _ _ h => h) (Or.inl ⟨by kernel_rfl, by intro w hSw; (try dsimp only at hSw); go_simp; try with_reducible rfl⟩) (by assumption) ?_
        simp only [Act.put, List.setIfInBounds_toArray, List.set_cons_zero, List.set_cons_succ]
        refine wpAnyH_take (i := 11) (oi := ⟨some 27, _, _, _, _, _⟩) (v := _) rfl (by kernel_rfl) (by kernel_rfl) (by kernel_rfl) (fun _ _ _ h => h) (Or.inl ⟨by kernel_rfl, by intro w hSw; (try dsimp only at hSw); go_simp; try with_reducible rfl⟩) (by assumption) ?_
        simp only [Act.put, List.setIfInBounds_toArray, List.set_cons_zero, List.set_cons_succ]
        refine wpAnyH_take (i := 12) (oi := ⟨some 28, _, _, _, _, _⟩) (v := _) rfl (by kernel_rfl) (by kernel_rfl) (by kernel_rfl) (fun _ _ _ h => h) (Or.inl ⟨by kernel_rfl, by intro w hSw; (try dsimp only at hSw); go_simp; try with_reducible rfl⟩) (by assumption) ?_
        simp only [Act.put, List.setIfInBounds_toArray, List.set_cons_zero, List.set_cons_succ]
        refine wpAnyH_take (i := 13) (oi := ⟨some 29, _, _, _, _, _⟩) (v := _) rfl (by kernel_rfl) (by kernel_rfl) (by kernel_rfl) (fun _ _ _ h => h) (Or.inl ⟨by kernel_rfl, by intro w hSw; (try dsimp only at hSw); go_simp; try with_reducible rfl⟩) (by assumption) ?_
        simp only [Act.put, List.setIfInBounds_toArray, List.set_cons_zero, List.set_cons_succ]
        refine wpAnyH_take (i := 14) (oi := ⟨some 30, _, _, _, _, _⟩) (v := _) rfl (by kernel_rfl) (by kernel_rfl) (by kernel_rfl) (fun _ _ _ h => h) (Or.inl ⟨by kernel_rfl, by intro w hSw; (try dsimp only at hSw); go_simp; try with_reducible rfl⟩) (by assumption) ?_
        simp only [Act.put, List.setIfInBounds_toArray, List.set_cons_zero, List.set_cons_succ]
        refine wpAnyH_take (i := 15) (oi := ⟨some 31, _, _, _, _, _⟩) (v := _) rfl (by kernel_rfl) (by kernel_rfl) (by kernel_rfl) (fun _ _ _ h => h) (Or.inl ⟨by kernel_rfl, by intro w hSw; (try dsimp only at hSw); go_simp; try with_reducible rfl⟩) (by assumption) ?_
        simp only [Act.put, List.setIfInBounds_toArray, List.set_cons_zero, List.set_cons_succ]
        refine wpAnyH_take (i := 16) (oi := ⟨some 32, _, _, _, _, _⟩) (v := _) rfl (by kernel_rfl) (by kernel_rfl) (by kernel_rfl) (fun _ _ _ h => h) (Or.inl ⟨by kernel_rfl, by intro w hSw; (try dsimp only at hSw); go_simp; try with_reducible rfl⟩) (by assumption) ?_
        simp only [Act.put, List.setIfInBounds_toArray, List.set_cons_zero, List.set_cons_succ]
        refine wpAnyH_done (by kernel_rfl) ?_ _
        clear hHeld
        go_wp2
        go_roundw
        case rel => exact ⟨m', by omega, by go_num, HOx.out.drew, HBx.out.drew, HLow.out hxy⟩
        case measure => simp [intOf]; have := HM.out; omega
      have HNew := Lib.hid (HHi.out hxy)
      have hcells := cw
      go_wp2
      refine wp_region_held_drew (S := fun w' => w'.cell? ⟨g, m', none⟩ = some (.int .i64 ((kk : Int))) ∧ w'.cell? ⟨b, oo + kk, none⟩ = some (.int .i64 x) ∧ w'.cell? ⟨b, oo + k, none⟩ = some (.int .i64 y)) (by kernel_rfl) ?_ (fun hHeld => ?_)
      · (first | (try dsimp only); go_keep | (go_split_ands; refine ⟨?_, ?_, ?_⟩ <;> first | exact keepB bx5 (by assumption) | exact keepB bx4 (by assumption) | exact keepB bx3 (by assumption) | exact keepB bx2 (by assumption) | exact keepB bx1 (by assumption) | exact keepO bo5 (by first | (simp; done) | (simp; omega)) (by assumption) | exact keepO bo4 (by first | (simp; done) | (simp; omega)) (by assumption) | exact keepO bo3 (by first | (simp; done) | (simp; omega)) (by assumption) | exact keepO bo2 (by first | (simp; done) | (simp; omega)) (by assumption) | exact keepO bo1 (by first | (simp; done) | (simp; omega)) (by assumption) | exact keepW bg2 (by first | (simp; done) | (simp; omega)) (by assumption) | exact keepW bg1 (by first | (simp; done) | (simp; omega)) (by assumption) | assumption))
      refine wpAnyH_take (i := 0) (oi := ⟨some 16, _, _, _, _, _⟩) (v := _) rfl (by kernel_rfl) (by kernel_rfl) (by kernel_rfl) (fun _ _ _ h => h) (Or.inl ⟨by kernel_rfl, by intro w hSw; (try dsimp only at hSw); go_simp; try with_reducible rfl⟩) (by assumption) ?_
      simp only [Act.put, List.setIfInBounds_toArray, List.set_cons_zero, List.set_cons_succ]
      refine wpAnyH_take (i := 1) (oi := ⟨some 17, _, _, _, _, _⟩) (v := _) rfl (by kernel_rfl) (by kernel_rfl) (by kernel_rfl) (fun _ _ _ h => h) (Or.inl ⟨by kernel_rfl, by intro w hSw; (try dsimp only at hSw); go_simp; try with_reducible rfl⟩) (by assumption) ?_
      simp only [Act.put, List.setIfInBounds_toArray, List.set_cons_zero, List.set_cons_succ]
      refine wpAnyH_take (i := 2) (oi := ⟨some 18, _, _, _, _, _⟩) (v := _) rfl (by kernel_rfl) (by kernel_rfl) (by kernel_rfl) (fun _ _ _ h => h) (Or.inl ⟨by kernel_rfl, by intro w hSw; (try dsimp only at hSw); go_simp; try with_reducible rfl⟩) (by assumption) ?_
      simp only [Act.put, List.setIfInBounds_toArray, List.set_cons_zero, List.set_cons_succ]
      refine wpAnyH_take (i := 3) (oi := ⟨some 19, _, _, _, _, _⟩) (v := _) rfl (by kernel_rfl) (by kernel_rfl) (by kernel_rfl) (fun _ _ _ h => h) (Or.inl ⟨by kernel_rfl, by intro w hSw; (try dsimp only at hSw); go_simp; try with_reducible rfl⟩) (by assumption) ?_
      simp only [Act.put, List.setIfInBounds_toArray, List.set_cons_zero, List.set_cons_succ]
      refine wpAnyH_take (i := 4) (oi := ⟨some 20, _, _, _, _, _⟩) (v := _) rfl (by kernel_rfl) (by kernel_rfl) (by kernel_rfl) (fun _ _ _ h => h) (Or.inl ⟨by kernel_rfl, by intro w hSw; (try dsimp only at hSw); go_simp; try with_reducible rfl⟩) (by assumption) ?_
      simp only [Act.put, List.setIfInBounds_toArray, List.set_cons_zero, List.set_cons_succ]
      refine wpAnyH_take (i := 5) (oi := ⟨some 21, _, _, _, _, _⟩) (v := _) rfl (by kernel_rfl) (by kernel_rfl) (by kernel_rfl) (fun _ _ _ h => h) (Or.inl ⟨by kernel_rfl, by intro w hSw; (try dsimp only at hSw); go_simp; try with_reducible rfl⟩) (by assumption) ?_
      simp only [Act.put, List.setIfInBounds_toArray, List.set_cons_zero, List.set_cons_succ]
      refine wpAnyH_take (i := 6) (oi := ⟨some 22, _, _, _, _, _⟩) (v := _) rfl (by kernel_rfl) (by kernel_rfl) (by kernel_rfl) (fun _ _ _ h => h) (Or.inl ⟨by kernel_rfl, by intro w hSw; (try dsimp only at hSw); go_simp; try with_reducible rfl⟩) (by assumption) ?_
      simp only [Act.put, List.setIfInBounds_toArray, List.set_cons_zero, List.set_cons_succ]
      refine wpAnyH_take (i := 7) (oi := ⟨some 23, _, _, _, _, _⟩) (v := _) rfl (by kernel_rfl) (by kernel_rfl) (by kernel_rfl) (fun _ _ _ h => h) (Or.inl ⟨by kernel_rfl, by intro w hSw; (try dsimp only at hSw); go_simp; try with_reducible rfl⟩) (by assumption) ?_
      simp only [Act.put, List.setIfInBounds_toArray, List.set_cons_zero, List.set_cons_succ]
      refine wpAnyH_take (i := 8) (oi := ⟨some 24, _, _, _, _, _⟩) (v := _) rfl (by kernel_rfl) (by kernel_rfl) (by kernel_rfl) (fun _ _ _ h => h) (Or.inl ⟨by kernel_rfl, by intro w hSw; (try dsimp only at hSw); go_simp; try with_reducible rfl⟩) (by assumption) ?_
      simp only [Act.put, List.setIfInBounds_toArray, List.set_cons_zero, List.set_cons_succ]
      refine wpAnyH_take (i := 9) (oi := ⟨some 25, _, _, _, _, _⟩) (v := _) rfl (by kernel_rfl) (by kernel_rfl) (by kernel_rfl) (fun _ _ _ h => h) (Or.inl ⟨by kernel_rfl, by intro w hSw; (try dsimp only at hSw); go_simp; try with_reducible rfl⟩) (by assumption) ?_
      simp only [Act.put, List.setIfInBounds_toArray, List.set_cons_zero, List.set_cons_succ]
      refine wpAnyH_take (i := 10) (oi := ⟨some 26, _, _, _, _, _⟩) (v := _) rfl (by kernel_rfl) (by kernel_rfl) (by kernel_rfl) (fun _ _ _ h => h) (Or.inl ⟨by kernel_rfl, by intro w hSw; (try dsimp only at hSw); go_simp; try with_reducible rfl⟩) (by assumption) ?_
      simp only [Act.put, List.setIfInBounds_toArray, List.set_cons_zero, List.set_cons_succ]
      refine wpAnyH_take (i := 11) (oi := ⟨some 27, _, _, _, _, _⟩) (v := _) rfl (by kernel_rfl) (by kernel_rfl) (by kernel_rfl) (fun _ _ _ h => h) (Or.inl ⟨by kernel_rfl, by intro w hSw; (try dsimp only at hSw); go_simp; try with_reducible rfl⟩) (by assumption) ?_
      simp only [Act.put, List.setIfInBounds_toArray, List.set_cons_zero, List.set_cons_succ]
      refine wpAnyH_take (i := 12) (oi := ⟨some 28, _, _, _, _, _⟩) (v := _) rfl (by kernel_rfl) (by kernel_rfl) (by kernel_rfl) (fun _ _ _ h => h) (Or.inl ⟨by kernel_rfl, by intro w hSw; (try dsimp only at hSw); go_simp; try with_reducible rfl⟩) (by assumption) ?_
      simp only [Act.put, List.setIfInBounds_toArray, List.set_cons_zero, List.set_cons_succ]
      refine wpAnyH_take (i := 13) (oi := ⟨some 29, _, _, _, _, _⟩) (v := _) rfl (by kernel_rfl) (by kernel_rfl) (by kernel_rfl) (fun _ _ _ h => h) (Or.inl ⟨by kernel_rfl, by intro w hSw; (try dsimp only at hSw); go_simp; try with_reducible rfl⟩) (by assumption) ?_
      simp only [Act.put, List.setIfInBounds_toArray, List.set_cons_zero, List.set_cons_succ]
      refine wpAnyH_take (i := 14) (oi := ⟨some 30, _, _, _, _, _⟩) (v := _) rfl (by kernel_rfl) (by kernel_rfl) (by kernel_rfl) (fun _ _ _ h => h) (Or.inl ⟨by kernel_rfl, by intro w hSw; (try dsimp only at hSw); go_simp; try with_reducible rfl⟩) (by assumption) ?_
      simp only [Act.put, List.setIfInBounds_toArray, List.set_cons_zero, List.set_cons_succ]
      refine wpAnyH_take (i := 15) (oi := ⟨some 31, _, _, _, _, _⟩) (v := _) rfl (by kernel_rfl) (by kernel_rfl) (by kernel_rfl) (fun _ _ _ h => h) (Or.inl ⟨by kernel_rfl, by intro w hSw; (try dsimp only at hSw); go_simp; try with_reducible rfl⟩) (by assumption) ?_
      simp only [Act.put, List.setIfInBounds_toArray, List.set_cons_zero, List.set_cons_succ]
      refine wpAnyH_take (i := 16) (oi := ⟨some 32, _, _, _, _, _⟩) (v := _) rfl (by kernel_rfl) (by kernel_rfl) (by kernel_rfl) (fun _ _ _ h => h) (Or.inl ⟨by kernel_rfl, by intro w hSw; (try dsimp only at hSw); go_simp; try with_reducible rfl⟩) (by assumption) ?_
      simp only [Act.put, List.setIfInBounds_toArray, List.set_cons_zero, List.set_cons_succ]
      refine wpAnyH_done (by kernel_rfl) ?_ _
      clear hHeld
      obtain ⟨wd, hwd⟩ : ∃ wd, wd = wx.drew := ⟨_, rfl⟩
      have HOd := Lib.hid (show OwnI wd w.heap.size 3 (.slice (some ⟨g, 0, none⟩) k d) (idxI K) by rw [hwd]; exact HOx.out.drew)
      have HBd := Lib.hid (show Below w.heap.size w wd by rw [hwd]; exact HBx.out.drew)
      rw [← hwd]
      clear hwd HOx HBx ck hcells
      have hkd : k ≤ d := by obtain ⟨_, _, e, h1, _⟩ := HOd.out.form; injection e with _ e1 e2; have := HKL.out; rw [idxI_len] at h1; omega
      have hml : (m : Int) ≤ (k : Int) := by omega
      have hkdi : (k : Int) ≤ (d : Int) := by omega
      have hsplit : idxI K = idxI (K.take m) ++ idxI (K.drop m) := by unfold idxI; rw [← List.map_append, List.take_append_drop]
      have hgd := (HOd.out.lt g rfl).2
      have hzd := HBd.out.size
      have hklI : (idxI K).length = k := by rw [idxI_len]; exact HKL.out
      have htl : (idxI (K.take m)).length = m := by rw [idxI_len, List.length_take]; have := HKL.out; omega
      have HDR := Lib.hid (show Ints wd w.heap.size wd.heap.size (.slice (some ⟨g, m, none⟩) (k - m) (d - m)) (idxI (K.drop m)) by
        have h1 := HOd.out.ints.dropW (i := m) (by omega)
        rw [Nat.zero_add] at h1
        have e : (idxI K).drop m = idxI (K.drop m) := by unfold idxI; rw [List.map_drop]
        rw [e] at h1; exact h1)
      have HPR := Lib.hid (show OwnI wd w.heap.size 3 (.slice (some ⟨g, 0, none⟩) m d) (idxI (K.take m)) by
        have h1 := HOd.out
        rw [hsplit] at h1
        have h2 := h1.prefix2
        rw [htl] at h2; exact h2)
      have HDZ := Lib.hid (show d = m → Ints wd w.heap.size wd.heap.size (.slice (some ⟨g, 0, none⟩) (k - m) 0) (idxI (K.drop m)) from fun hdm => by
        have e : idxI (K.drop m) = [] := by rw [List.drop_eq_nil_of_le (by have := HKL.out; omega)]; rfl
        rw [e, show k - m = 0 by omega]
        exact ⟨_, _, rfl, Nat.le_refl _, by omega, ⟨rfl, fun h0 => absurd h0 (by simp)⟩, fun x hx => by cases hx⟩)
      have hdl : (idxI (K.drop m)).length = k - m := by rw [idxI_len, List.length_drop]; have := HKL.out; omega
      have HTL := Lib.hid htl
      have HDL := Lib.hid hdl
      clear hsplit hklI htl hdl HOd
      go_wp2_with fail
      all_goals
        try (have hdm : m = d := (by omega); subst hdm)
        first | refine (copyIntsR_any _ _ _ (idxI (K.drop m)) wd HDR.out (Nat.le_refl _) (by have := HDL.out; omega)).mono ?_ | refine (copyIntsR_any _ _ _ (idxI (K.drop m)) wd (HDZ.out rfl) (Nat.le_refl _) (by have := HDL.out; omega)).mono ?_
        rintro e w2 ⟨v2, rfl, ho2, hb2⟩
        have HP2 := Lib.hid (HPR.out.keptBlock (w' := w2) fun g' hg' => hb2.block g' (by simp [Value.ownBlock] at hg'; omega))
        have H2 := Lib.hid ho2
        have HB2 := Lib.hid (HBd.out.trans (hb2.mono hzd))
        have hz2 := hb2.size
        clear ho2 hb2 HDR HDZ HPR HBd
        go_wp2_with (at_builtin; go_loud (first | (refine wpList_appendI SlI _ rfl (.tmp 41) (.tmp 43) rfl _ w.heap.size _ (idxI (K.take m)) rfl rfl HP2.out ⟨by omega, by omega⟩ (by have := HTL.out; omega) (by omega) ?_; intro v3 w3 ho3 hg3; have H3 := Lib.hid ho3; have HI3 := Lib.hid (H2.out.ints.kept (w' := w3) (fun j h1 h2 => hg3.other j h2 (fun e => by injection e with e; have e2 : j = g := e; omega))); have HB3 := Lib.hid (HB2.out.trans hg3.below); have hz3 := hg3.below.size; clear ho3 hg3) | (refine wpList_appendIs SlI _ rfl (.tmp 44) (.tmp 45) rfl _ _ _ w.heap.size _ (idxI (K.take m) ++ [(k : Int)]) (idxI (K.drop m)) rfl rfl H3.out HI3.out (by rw [List.length_append, List.length_singleton]; have := HTL.out; have := HDL.out; omega) (by omega) ?_; intro v4 w4 ho4 hg4; have H4 := Lib.hid ho4; have HB4 := Lib.hid (HB3.out.trans hg4.below); clear ho4 hg4)))
        have e4 : idxI (K.take m) ++ [(k : Int)] ++ idxI (K.drop m) = idxI (K.take m ++ k :: K.drop m) := by simp [idxI]
        rw [e4] at H4
        have hln : (idxI (K.take m ++ k :: K.drop m)).length = k + 1 := by rw [idxI_len]; exact HNew.out.len
        obtain ⟨A4, d4, hv4, _, _⟩ := H4.out.form
        subst hv4
        obtain ⟨g4, hg4, _⟩ := H4.out.at_ (i := 0) (by omega)
        subst hg4
        rw [hln] at H4 ⊢
        go_roundw
        case rel => exact ⟨k + 1, g4, d4, _, hlt, by go_num, rfl, H4.out, HB4.out, HNew.out⟩
        case measure => simp [intOf]; omega
end Go.Proofs.Yteckjiaaikdghaa
