/-
  Lemmas and contracts of single functions of this program, used by the proofs of its laws: what each call returns and what becomes of memory. Conditions: the hypotheses of each theorem.
-/
import Derived.Test.YtkgepklapglmdaaGreatDoorGST
import Derived.Test.YtkgepklapglmdaaGreatDoorZb
namespace Go.Proofs.YtkgepklapglmdaaGreatDoor
open Go.RowKit
attribute [local go_sem ↓] Go.wp_at_zero Go.wp_at_succ

/-- the first k widths, the widest first -/
def DescN (ws : List Int) (k : Nat) (K : List Nat) : Prop := OrdG k K ∧ K.Pairwise fun a b => gi ws b < gi ws a
theorem desc_ins {W : Int} {ws : List Int} (hv : vWid W ws = true) {k m : Nat} {K : List Nat} (hk : k < ws.length) (h : DescN ws k K) (hm : m ≤ K.length) (hlow : ∀ x ∈ K.drop m, gi ws x < gi ws k) (hhigh : ∀ i, m = i + 1 → ¬ gi ws (K.getD i 0) < gi ws k) : DescN ws (k + 1) (K.take m ++ k :: K.drop m) := by
  obtain ⟨⟨hn, hmem⟩, hp⟩ := h
  have hperm : (K.take m ++ k :: K.drop m).Perm (k :: K) := by
    have := List.perm_middle (a := k) (l₁ := K.take m) (l₂ := K.drop m)
    rwa [List.take_append_drop] at this
  have hkn : k ∉ K := fun h => by have := (hmem k).1 h; omega
  have hhi : ∀ x ∈ K.take m, gi ws k < gi ws x := fun x hx => by
    obtain ⟨p, hpl, rfl⟩ := List.mem_take_iff_getElem.1 hx
    have hpm : p < m ∧ p < K.length := by omega
    obtain ⟨i, hi⟩ : ∃ i, m = i + 1 := ⟨m - 1, by omega⟩
    have hiK : i < K.length := by omega
    have h1 := hhigh i hi
    rw [List.getD_eq_getElem?_getD, List.getElem?_eq_getElem hiK, Option.getD_some] at h1
    have h2 := (hmem K[i]).1 (List.getElem_mem hiK)
    have h3 := wid_ne hv (i := K[i]) (j := k) (by omega) hk (by omega)
    rcases Nat.lt_or_ge p i with hlt | hge
    · have := List.pairwise_iff_getElem.1 hp p i hpm.2 hiK hlt
      omega
    · have hpi : p = i := by omega
      subst hpi
      omega
  refine ⟨⟨hperm.nodup_iff.2 (List.nodup_cons.2 ⟨hkn, hn⟩), fun i => ?_⟩, ?_⟩
  · rw [hperm.mem_iff, List.mem_cons, hmem]; omega
  · refine List.pairwise_append.2 ⟨hp.sublist (List.take_sublist m K), List.pairwise_cons.2 ⟨hlow, hp.sublist (List.drop_sublist m K)⟩, fun a ha b hb => ?_⟩
    rcases List.mem_cons.1 hb with rfl | hb
    · exact hhi a ha
    · have := hhi a ha; have := hlow b hb; omega
theorem Ints.dropW {w : World} {lo hi n c b o : Nat} {xs : List Int} (h : Ints w lo hi (.slice (some ⟨b, o, none⟩) n c) xs) {i : Nat} (hi' : i ≤ xs.length) : Ints w lo hi (.slice (some ⟨b, o + i, none⟩) (n - i) (c - i)) (xs.drop i) := by
  obtain ⟨A', c', e, hc, hm, ⟨hl, hr⟩, h64⟩ := h
  obtain ⟨rfl, rfl, rfl⟩ : some ⟨b, o, none⟩ = A' ∧ n = xs.length ∧ c = c' := by simpa using e
  refine ⟨_, _, by rw [List.length_drop], by rw [List.length_drop]; omega, by omega, ⟨by simp, fun h0 => ?_⟩, fun x hx => h64 x (List.mem_of_mem_drop hx)⟩
  rw [List.length_drop] at h0
  obtain ⟨b', o', e2, h1, h2, h3⟩ := hr (by omega)
  simp only [Option.some.injEq, Addr.mk.injEq, and_true] at e2
  obtain ⟨rfl, rfl⟩ := e2
  refine ⟨b, o + i, rfl, h1, h2, fun j u hu => ?_⟩
  have := h3 (i + j) u (by rw [← hu]; simp [List.getElem?_drop])
  rw [← Nat.add_assoc] at this
  exact this
theorem DescN.len {ws : List Int} {k : Nat} {K : List Nat} (h : DescN ws k K) : K.length = k := ordG_len h.1
set_option maxRecDepth 100000 in
set_option maxHeartbeats 4000000 in
theorem widest_any (lo hi : Nat) (v : Value) (W : Int) (ws : List Int) (w : World) (hv : vWid W ws = true) (h : Ints w lo hi v ws) (hhi : hi ≤ w.heap.size) :
    Calls Tryz.prog 74 #[v] w fun e w' => ∃ v', e = .returned v' ∧ OwnI w' w.heap.size 3 v' (idxI (kOrd ws)) ∧ Below w.heap.size w w' := by
  obtain ⟨A, c, rfl, hc, hm⟩ := h.form
  have hn6 : ws.length ≤ 6 := (vWid_iff.1 hv).2.2.2.1
  have HV := Lib.hid hv
  have HH := Lib.hid h
  have HO0 := Lib.hid (OwnI.empty w w.heap.size 3 (Nat.le_refl _))
  have HB0 := Lib.hid ((Below.refl w.heap.size w).alloc (Nat.le_refl _) (.cells #[] 3))
  clear hv h
  go_enter Tryz.func74, Tryz.ntmps74
  go_wp2_with fail
  go_loopw [3, 4, 5, 6] (fun o i _ _ wr => ∃ (k g d : Nat) (K : List Nat), k ≤ ws.length ∧ i = .int .i64 k ∧ o = .slice (some ⟨g, 0, none⟩) k d ∧ Hid (OwnI wr w.heap.size 3 (.slice (some ⟨g, 0, none⟩) k d) (idxI K)) ∧ Hid (Below w.heap.size w wr) ∧ Hid (DescN ws k K)) (fun _ i _ _ _ => ws.length - (intOf i).toNat)
  case atStart => exact ⟨0, w.heap.size, 0, [], Nat.zero_le _, rfl, rfl, HO0.out, HB0.out, ⟨⟨List.nodup_nil, fun i => by simp⟩, List.Pairwise.nil⟩⟩
  case round =>
    obtain ⟨k, g, d, K, hk, rfl, rfl, HO, HB, HD⟩ := hrel
    clear HO0 HB0
    by_cases hlt : k < ws.length
    rotate_left
    · have hnk : ¬ (k : Int) < (ws.length : Int) := by omega
      have HR := Lib.hid (show OwnI wr w.heap.size 3 (.slice (some ⟨g, 0, none⟩) k d) (idxI (kOrd ws)) by
        have h1 := HD.out
        rw [show k = ws.length by omega] at h1
        rw [← desc_unique h1 (kOrd_desc HV.out)]; exact HO.out)
      go_wp2
      go_ret
      exact ⟨_, rfl, HR.out, HB.out⟩
    have hk1 : (k : Int) < (ws.length : Int) := by omega
    have hk0 : (0 : Int) ≤ (k : Int) := by omega
    have HKL := Lib.hid HD.out.len
    go_wp2
    go_loopw [5] (fun a wx => ∃ m : Nat, m ≤ k ∧ a = .int .i64 m ∧ Hid (OwnI wx w.heap.size 3 (.slice (some ⟨g, 0, none⟩) k d) (idxI K)) ∧ Hid (Below w.heap.size w wx) ∧ Hid (∀ x ∈ K.drop m, gi ws x < gi ws k)) (fun a _ => (intOf a).toNat)
    case atStart => exact ⟨k, Nat.le_refl _, rfl, HO.out, HB.out, fun x hx => by rw [List.drop_eq_nil_of_le (by have := HKL.out; omega)] at hx; cases hx⟩
    case round =>
      obtain ⟨m, hm, rfl, HOx, HBx, HLo⟩ := hrel
      clear HO HB
      obtain ⟨wx, rfl⟩ : ∃ wx : World, wx = wr := ⟨_, rfl⟩
      obtain ⟨b, oo, hA, hbl, hbh, ck, _⟩ := (HH.out.below HBx.out hhi).cell hlt
      subst hA
      have ha := vWid_w HV.out hlt
      by_cases hm0 : 0 < m
      rotate_left
      · have hn0 : ¬ (m : Int) > 0 := by omega
        have HNew := Lib.hid (desc_ins HV.out (m := m) hlt HD.out (by have := HKL.out; omega) HLo.out (fun i hi => by omega))
        have hcells := ck
        go_wp2
        refine wp_region_held_drew (S := fun w' => w'.cell? ⟨b, oo + k, none⟩ = some (.int .i64 (gi ws k))) (by kernel_rfl) ?_ (fun hHeld => ?_)
        · (first | (try dsimp only); go_keep | (first | exact keepW bg1 (by first | (simp; done) | (simp; omega)) (by assumption)))
        refine tkW 0 16 rfl rfl (by kernel_rfl) hHeld (by intro w hSw; (try dsimp only at hSw); go_simp; try with_reducible rfl) ?_ (fun _ _ _ h => h)
        simp only [Act.put, lyA, lyB, lyC]
        refine tkW 1 17 rfl rfl (by kernel_rfl) hHeld (by intro w hSw; (try dsimp only at hSw); go_simp; try with_reducible rfl) ?_ (fun _ _ _ h => h)
        simp only [Act.put, lyA, lyB, lyC]
        refine tkW 2 18 rfl rfl (by kernel_rfl) hHeld (by intro w hSw; (try dsimp only at hSw); go_simp; try with_reducible rfl) ?_ (fun _ _ _ h => h)
        simp only [Act.put, lyA, lyB, lyC]
        refine wpAnyH_take (i := 3) (oi := ⟨some 19, _, _, _, _, _⟩) (v := undef) rfl (by kernel_rfl) (by kernel_rfl) (by kernel_rfl) (fun _ _ _ h => h) (Or.inr ⟨by kernel_rfl, rfl⟩) (by assumption) ?_
        simp only [Act.put, lyA, lyB, lyC]
        refine wpAnyH_take (i := 4) (oi := ⟨some 20, _, _, _, _, _⟩) (v := undef) rfl (by kernel_rfl) (by kernel_rfl) (by kernel_rfl) (fun _ _ _ h => h) (Or.inr ⟨by kernel_rfl, rfl⟩) (by assumption) ?_
        simp only [Act.put, lyA, lyB, lyC]
        refine wpAnyH_take (i := 5) (oi := ⟨some 21, _, _, _, _, _⟩) (v := undef) rfl (by kernel_rfl) (by kernel_rfl) (by kernel_rfl) (fun _ _ _ h => h) (Or.inr ⟨by kernel_rfl, rfl⟩) (by assumption) ?_
        simp only [Act.put, lyA, lyB, lyC]
        refine wpAnyH_take (i := 6) (oi := ⟨some 22, _, _, _, _, _⟩) (v := undef) rfl (by kernel_rfl) (by kernel_rfl) (by kernel_rfl) (fun _ _ _ h => h) (Or.inr ⟨by kernel_rfl, rfl⟩) (by assumption) ?_
        simp only [Act.put, lyA, lyB, lyC]
        refine wpAnyH_take (i := 7) (oi := ⟨some 23, _, _, _, _, _⟩) (v := undef) rfl (by kernel_rfl) (by kernel_rfl) (by kernel_rfl) (fun _ _ _ h => h) (Or.inr ⟨by kernel_rfl, rfl⟩) (by assumption) ?_
        simp only [Act.put, lyA, lyB, lyC]
        refine wpAnyH_take (i := 8) (oi := ⟨some 24, _, _, _, _, _⟩) (v := undef) rfl (by kernel_rfl) (by kernel_rfl) (by kernel_rfl) (fun _ _ _ h => h) (Or.inr ⟨by kernel_rfl, rfl⟩) (by assumption) ?_
        simp only [Act.put, lyA, lyB, lyC]
        refine wpAnyH_take (i := 9) (oi := ⟨some 25, _, _, _, _, _⟩) (v := undef) rfl (by kernel_rfl) (by kernel_rfl) (by kernel_rfl) (fun _ _ _ h => h) (Or.inr ⟨by kernel_rfl, rfl⟩) (by assumption) ?_
        simp only [Act.put, lyA, lyB, lyC]
        refine wpAnyH_take (i := 10) (oi := ⟨some 26, _, _, _, _, _⟩) (v := undef) rfl (by kernel_rfl) (by kernel_rfl) (by kernel_rfl) (fun _ _ _ h => h) (Or.inr ⟨by kernel_rfl, rfl⟩) (by assumption) ?_
        simp only [Act.put, lyA, lyB, lyC]
        refine wpAnyH_take (i := 11) (oi := ⟨some 27, _, _, _, _, _⟩) (v := undef) rfl (by kernel_rfl) (by kernel_rfl) (by kernel_rfl) (fun _ _ _ h => h) (Or.inr ⟨by kernel_rfl, rfl⟩) (by assumption) ?_
        simp only [Act.put, lyA, lyB, lyC]
        refine wpAnyH_take (i := 12) (oi := ⟨some 28, _, _, _, _, _⟩) (v := undef) rfl (by kernel_rfl) (by kernel_rfl) (by kernel_rfl) (fun _ _ _ h => h) (Or.inr ⟨by kernel_rfl, rfl⟩) (by assumption) ?_
        simp only [Act.put, lyA, lyB, lyC]
        refine wpAnyH_take (i := 13) (oi := ⟨some 29, _, _, _, _, _⟩) (v := undef) rfl (by kernel_rfl) (by kernel_rfl) (by kernel_rfl) (fun _ _ _ h => h) (Or.inr ⟨by kernel_rfl, rfl⟩) (by assumption) ?_
        simp only [Act.put, lyA, lyB, lyC]
        refine wpAnyH_take (i := 14) (oi := ⟨some 30, _, _, _, _, _⟩) (v := undef) rfl (by kernel_rfl) (by kernel_rfl) (by kernel_rfl) (fun _ _ _ h => h) (Or.inr ⟨by kernel_rfl, rfl⟩) (by assumption) ?_
        simp only [Act.put, lyA, lyB, lyC]
        refine wpAnyH_take (i := 15) (oi := ⟨some 31, _, _, _, _, _⟩) (v := undef) rfl (by kernel_rfl) (by kernel_rfl) (by kernel_rfl) (fun _ _ _ h => h) (Or.inr ⟨by kernel_rfl, rfl⟩) (by assumption) ?_
        simp only [Act.put, lyA, lyB, lyC]
        refine tkW 16 32 rfl rfl (by kernel_rfl) hHeld (by intro w hSw; (try dsimp only at hSw); go_simp; try with_reducible rfl) ?_ (fun _ _ _ h => h)
        simp only [Act.put, lyA, lyB, lyC]
        refine wpAnyH_done (by kernel_rfl) ?_ _
        clear hHeld
        obtain ⟨wd, hwd⟩ : ∃ wd, wd = wx.drew := ⟨_, rfl⟩
        have HOd := Lib.hid (show OwnI wd w.heap.size 3 (.slice (some ⟨g, 0, none⟩) k d) (idxI K) by rw [hwd]; exact HOx.out.drew)
        have HBd := Lib.hid (show Below w.heap.size w wd by rw [hwd]; exact HBx.out.drew)
        rw [← hwd]
        clear hwd HOx HBx ck hcells
        have hkd : k ≤ d := by obtain ⟨_, _, e, h1, _⟩ := HOd.out.form; injection e with _ e1 e2; have := HKL.out; rw [idxI_len] at h1; omega
        have hml : (m : Int) ≤ (k : Int) := by omega
        have hkdi : (k : Int) ≤ (d : Int) := by omega
        have hsplit : idxI K = idxI (K.take m) ++ idxI (K.drop m) := by unfold idxI; rw [← List.map_append, List.take_append_drop]
        have hgd := (HOd.out.lt g rfl).2
        have hzd := HBd.out.size
        have hklI : (idxI K).length = k := by rw [idxI_len]; exact HKL.out
        have htl : (idxI (K.take m)).length = m := by rw [idxI_len, List.length_take]; have := HKL.out; omega
        have HDR := Lib.hid (show Ints wd w.heap.size wd.heap.size (.slice (some ⟨g, m, none⟩) (k - m) (d - m)) (idxI (K.drop m)) by
          have h1 := HOd.out.ints.dropW (i := m) (by omega)
          rw [Nat.zero_add] at h1
          have e : (idxI K).drop m = idxI (K.drop m) := by unfold idxI; rw [List.map_drop]
          rw [e] at h1; exact h1)
        have HPR := Lib.hid (show OwnI wd w.heap.size 3 (.slice (some ⟨g, 0, none⟩) m d) (idxI (K.take m)) by
          have h1 := HOd.out
          rw [hsplit] at h1
          have h2 := h1.prefix2
          rw [htl] at h2; exact h2)
        have HDZ := Lib.hid (show d = m → Ints wd w.heap.size wd.heap.size (.slice (some ⟨g, 0, none⟩) (k - m) 0) (idxI (K.drop m)) from fun hdm => by
          have e : idxI (K.drop m) = [] := by rw [List.drop_eq_nil_of_le (by have := HKL.out; omega)]; rfl
          rw [e, show k - m = 0 by omega]
          exact ⟨_, _, rfl, Nat.le_refl _, by omega, ⟨rfl, fun h0 => absurd h0 (by simp)⟩, fun x hx => by cases hx⟩)
        have hdl : (idxI (K.drop m)).length = k - m := by rw [idxI_len, List.length_drop]; have := HKL.out; omega
        have HTL := Lib.hid htl
        have HDL := Lib.hid hdl
        clear hsplit hklI htl hdl HOd
        go_wp2_with fail
        all_goals
          try (have hdm : m = d := (by omega); subst hdm)
          first | refine (copyIntsR_any _ _ _ (idxI (K.drop m)) wd HDR.out (Nat.le_refl _) (by have := HDL.out; omega)).mono ?_ | refine (copyIntsR_any _ _ _ (idxI (K.drop m)) wd (HDZ.out rfl) (Nat.le_refl _) (by have := HDL.out; omega)).mono ?_
          rintro e w2 ⟨v2, rfl, ho2, hb2⟩
          have HP2 := Lib.hid (HPR.out.keptBlock (w' := w2) fun g' hg' => hb2.block g' (by simp [Value.ownBlock] at hg'; omega))
          have H2 := Lib.hid ho2
          have HB2 := Lib.hid (HBd.out.trans (hb2.mono hzd))
          have hz2 := hb2.size
          clear ho2 hb2 HDR HDZ HPR HBd
          go_wp2_with (at_builtin; go_loud (first | (refine wpList_appendI SlI _ rfl (.tmp 41) (.tmp 43) rfl _ w.heap.size _ (idxI (K.take m)) rfl rfl HP2.out ⟨by omega, by omega⟩ (by have := HTL.out; omega) (by omega) ?_; intro v3 w3 ho3 hg3; have H3 := Lib.hid ho3; have HI3 := Lib.hid (H2.out.ints.kept (w' := w3) (fun j h1 h2 => hg3.other j h2 (fun e => by injection e with e; have e2 : j = g := e; omega))); have HB3 := Lib.hid (HB2.out.trans hg3.below); have hz3 := hg3.below.size; clear ho3 hg3) | (refine wpList_appendIs SlI _ rfl (.tmp 44) (.tmp 45) rfl _ _ _ w.heap.size _ (idxI (K.take m) ++ [(k : Int)]) (idxI (K.drop m)) rfl rfl H3.out HI3.out (by rw [List.length_append, List.length_singleton]; have := HTL.out; have := HDL.out; omega) (by omega) ?_; intro v4 w4 ho4 hg4; have H4 := Lib.hid ho4; have HB4 := Lib.hid (HB3.out.trans hg4.below); clear ho4 hg4)))
          have e4 : idxI (K.take m) ++ [(k : Int)] ++ idxI (K.drop m) = idxI (K.take m ++ k :: K.drop m) := by simp [idxI]
          rw [e4] at H4
          have hln : (idxI (K.take m ++ k :: K.drop m)).length = k + 1 := by rw [idxI_len]; exact HNew.out.len
          obtain ⟨A4, d4, hv4, _, _⟩ := H4.out.form
          subst hv4
          obtain ⟨g4, hg4, _⟩ := H4.out.at_ (i := 0) (by omega)
          subst hg4
          rw [hln] at H4 ⊢
          go_roundw
          case rel => exact ⟨k + 1, g4, d4, _, hlt, by go_num, rfl, H4.out, HB4.out, HNew.out⟩
          case measure => simp [intOf]; omega
      have hn0 : (m : Int) > 0 := by omega
      obtain ⟨m', hm'⟩ : ∃ m', m = m' + 1 := ⟨m - 1, by omega⟩
      have hmK : m' < K.length := by have := HKL.out; omega
      obtain ⟨kk, hkk⟩ : ∃ k, k = K[m'] := ⟨_, rfl⟩
      have hkn : kk < k := by rw [hkk]; exact (HD.out.1.2 _).1 (List.getElem_mem hmK)
      have hkw : kk < ws.length := by omega
      have co := HOx.out.ints.cell' (k := m') (by rw [idxI_len]; exact hmK)
      rw [Nat.zero_add, gi_idxI hmK, ← hkk] at co
      have cw := (HH.out.below HBx.out hhi).cell' hkw
      obtain ⟨x, hx⟩ : ∃ x, x = gi ws kk := ⟨_, rfl⟩
      obtain ⟨y, hy⟩ : ∃ x, x = gi ws k := ⟨_, rfl⟩
      have HLow := Lib.hid (show x < y → ∀ z ∈ K.drop m', gi ws z < gi ws k from fun h z hz => by
        rw [List.drop_eq_getElem_cons hmK] at hz
        rcases List.mem_cons.1 hz with rfl | hz
        · rw [← hkk, ← hx, ← hy]; exact h
        · exact HLo.out z (by rw [hm']; exact hz))
      have HHi := Lib.hid (show ¬ x < y → DescN ws (k + 1) (K.take m ++ k :: K.drop m) from fun h => desc_ins HV.out (m := m) hlt HD.out (by have := HKL.out; omega) HLo.out (fun i hi => by
        have e : i = m' := by omega
        subst e
        rw [List.getD_eq_getElem?_getD, List.getElem?_eq_getElem hmK, Option.getD_some, ← hkk, ← hx, ← hy]; exact h))
      rw [← hx] at cw
      rw [← hy] at ck
      have hmi : (m : Int) - 1 = (m' : Int) := by omega
      have gm : IntKind.i64.wrap (m' : Int) = (m' : Int) := IntWalk.i64_in _ (by omega)
      have i0 : (0 : Int) ≤ (m' : Int) := by omega
      have i1 : (m' : Int) < (k : Int) := by omega
      have i2 : (0 : Int) ≤ (kk : Int) := by omega
      have i3 : (kk : Int) < (ws.length : Int) := by omega
      have HM := Lib.hid hm'
      clear hm' hkk hx hy ha
      by_cases hxy : x < y
      · go_wp2
        refine wp_region_held_drew (S := fun w' => w'.cell? ⟨g, m', none⟩ = some (.int .i64 ((kk : Int))) ∧ w'.cell? ⟨b, oo + kk, none⟩ = some (.int .i64 x) ∧ w'.cell? ⟨b, oo + k, none⟩ = some (.int .i64 y)) (by kernel_rfl) ?_ (fun hHeld => ?_)
        · (first | (try dsimp only); go_keep | (go_split_ands; refine ⟨?_, ?_, ?_⟩ <;> first | assumption))
        refine tkW 0 16 rfl rfl (by kernel_rfl) hHeld (by intro w hSw; (try dsimp only at hSw); go_simp; try with_reducible rfl) ?_ (fun _ _ _ h => h)
        simp only [Act.put, lyA, lyB, lyC]
        refine tkW 1 17 rfl rfl (by kernel_rfl) hHeld (by intro w hSw; (try dsimp only at hSw); go_simp; try with_reducible rfl) ?_ (fun _ _ _ h => h)
        simp only [Act.put, lyA, lyB, lyC]
        refine tkW 2 18 rfl rfl (by kernel_rfl) hHeld (by intro w hSw; (try dsimp only at hSw); go_simp; try with_reducible rfl) ?_ (fun _ _ _ h => h)
        simp only [Act.put, lyA, lyB, lyC]
        refine tkW 3 19 rfl rfl (by kernel_rfl) hHeld (by intro w hSw; (try dsimp only at hSw); go_simp; try with_reducible rfl) ?_ (fun _ _ _ h => h)
        simp only [Act.put, lyA, lyB, lyC]
        refine tkW 4 20 rfl rfl (by kernel_rfl) hHeld (by intro w hSw; (try dsimp only at hSw); go_simp; try with_reducible rfl) ?_ (fun _ _ _ h => h)
        simp only [Act.put, lyA, lyB, lyC]
        refine tkW 5 21 rfl rfl (by kernel_rfl) hHeld (by intro w hSw; (try dsimp only at hSw); go_simp; try with_reducible rfl) ?_ (fun _ _ _ h => h)
        simp only [Act.put, lyA, lyB, lyC]
        refine tkW 6 22 rfl rfl (by kernel_rfl) hHeld (by intro w hSw; (try dsimp only at hSw); go_simp; try with_reducible rfl) ?_ (fun _ _ _ h => h)
        simp only [Act.put, lyA, lyB, lyC]
        refine tkW 7 23 rfl rfl (by kernel_rfl) hHeld (by intro w hSw; (try dsimp only at hSw); go_simp; try with_reducible rfl) ?_ (fun _ _ _ h => h)
        simp only [Act.put, lyA, lyB, lyC]
        refine tkW 8 24 rfl rfl (by kernel_rfl) hHeld (by intro w hSw; (try dsimp only at hSw); go_simp; try with_reducible rfl) ?_ (fun _ _ _ h => h)
        simp only [Act.put, lyA, lyB, lyC]
        refine tkW 9 25 rfl rfl (by kernel_rfl) hHeld (by intro w hSw; (try dsimp only at hSw); go_simp; try with_reducible rfl) ?_ (fun _ _ _ h => h)
        simp only [Act.put, lyA, lyB, lyC]
        refine tkW 10 26 rfl rfl (by kernel_rfl) hHeld (by intro w hSw; (try dsimp only at hSw); go_simp; try with_reducible rfl) ?_ (fun _ _ _ h => h)
        simp only [Act.put, lyA, lyB, lyC]
        refine tkW 11 27 rfl rfl (by kernel_rfl) hHeld (by intro w hSw; (try dsimp only at hSw); go_simp; try with_reducible rfl) ?_ (fun _ _ _ h => h)
        simp only [Act.put, lyA, lyB, lyC]
        refine tkW 12 28 rfl rfl (by kernel_rfl) hHeld (by intro w hSw; (try dsimp only at hSw); go_simp; try with_reducible rfl) ?_ (fun _ _ _ h => h)
        simp only [Act.put, lyA, lyB, lyC]
        refine tkW 13 29 rfl rfl (by kernel_rfl) hHeld (by intro w hSw; (try dsimp only at hSw); go_simp; try with_reducible rfl) ?_ (fun _ _ _ h => h)
        simp only [Act.put, lyA, lyB, lyC]
        refine tkW 14 30 rfl rfl (by kernel_rfl) hHeld (by intro w hSw; (try dsimp only at hSw); go_simp; try with_reducible rfl) ?_ (fun _ _ _ h => h)
        simp only [Act.put, lyA, lyB, lyC]
        refine tkW 15 31 rfl rfl (by kernel_rfl) hHeld (by intro w hSw; (try dsimp only at hSw); go_simp; try with_reducible rfl) ?_ (fun _ _ _ h => h)
        simp only [Act.put, lyA, lyB, lyC]
        refine tkW 16 32 rfl rfl (by kernel_rfl) hHeld (by intro w hSw; (try dsimp only at hSw); go_simp; try with_reducible rfl) ?_ (fun _ _ _ h => h)
        simp only [Act.put, lyA, lyB, lyC]
        refine wpAnyH_done (by kernel_rfl) ?_ _
        clear hHeld
        go_wp2
        go_roundw
        case rel => exact ⟨m', by omega, by go_num, HOx.out.drew, HBx.out.drew, HLow.out hxy⟩
        case measure => simp [intOf]; have := HM.out; omega
      have HNew := Lib.hid (HHi.out hxy)
      have hcells := cw
      go_wp2
      refine wp_region_held_drew (S := fun w' => w'.cell? ⟨g, m', none⟩ = some (.int .i64 ((kk : Int))) ∧ w'.cell? ⟨b, oo + kk, none⟩ = some (.int .i64 x) ∧ w'.cell? ⟨b, oo + k, none⟩ = some (.int .i64 y)) (by kernel_rfl) ?_ (fun hHeld => ?_)
      · (first | (try dsimp only); go_keep | (go_split_ands; refine ⟨?_, ?_, ?_⟩ <;> first | assumption))
      refine tkW 0 16 rfl rfl (by kernel_rfl) hHeld (by intro w hSw; (try dsimp only at hSw); go_simp; try with_reducible rfl) ?_ (fun _ _ _ h => h)
      simp only [Act.put, lyA, lyB, lyC]
      refine tkW 1 17 rfl rfl (by kernel_rfl) hHeld (by intro w hSw; (try dsimp only at hSw); go_simp; try with_reducible rfl) ?_ (fun _ _ _ h => h)
      simp only [Act.put, lyA, lyB, lyC]
      refine tkW 2 18 rfl rfl (by kernel_rfl) hHeld (by intro w hSw; (try dsimp only at hSw); go_simp; try with_reducible rfl) ?_ (fun _ _ _ h => h)
      simp only [Act.put, lyA, lyB, lyC]
      refine tkW 3 19 rfl rfl (by kernel_rfl) hHeld (by intro w hSw; (try dsimp only at hSw); go_simp; try with_reducible rfl) ?_ (fun _ _ _ h => h)
      simp only [Act.put, lyA, lyB, lyC]
      refine tkW 4 20 rfl rfl (by kernel_rfl) hHeld (by intro w hSw; (try dsimp only at hSw); go_simp; try with_reducible rfl) ?_ (fun _ _ _ h => h)
      simp only [Act.put, lyA, lyB, lyC]
      refine tkW 5 21 rfl rfl (by kernel_rfl) hHeld (by intro w hSw; (try dsimp only at hSw); go_simp; try with_reducible rfl) ?_ (fun _ _ _ h => h)
      simp only [Act.put, lyA, lyB, lyC]
      refine tkW 6 22 rfl rfl (by kernel_rfl) hHeld (by intro w hSw; (try dsimp only at hSw); go_simp; try with_reducible rfl) ?_ (fun _ _ _ h => h)
      simp only [Act.put, lyA, lyB, lyC]
      refine tkW 7 23 rfl rfl (by kernel_rfl) hHeld (by intro w hSw; (try dsimp only at hSw); go_simp; try with_reducible rfl) ?_ (fun _ _ _ h => h)
      simp only [Act.put, lyA, lyB, lyC]
      refine tkW 8 24 rfl rfl (by kernel_rfl) hHeld (by intro w hSw; (try dsimp only at hSw); go_simp; try with_reducible rfl) ?_ (fun _ _ _ h => h)
      simp only [Act.put, lyA, lyB, lyC]
      refine tkW 9 25 rfl rfl (by kernel_rfl) hHeld (by intro w hSw; (try dsimp only at hSw); go_simp; try with_reducible rfl) ?_ (fun _ _ _ h => h)
      simp only [Act.put, lyA, lyB, lyC]
      refine tkW 10 26 rfl rfl (by kernel_rfl) hHeld (by intro w hSw; (try dsimp only at hSw); go_simp; try with_reducible rfl) ?_ (fun _ _ _ h => h)
      simp only [Act.put, lyA, lyB, lyC]
      refine tkW 11 27 rfl rfl (by kernel_rfl) hHeld (by intro w hSw; (try dsimp only at hSw); go_simp; try with_reducible rfl) ?_ (fun _ _ _ h => h)
      simp only [Act.put, lyA, lyB, lyC]
      refine tkW 12 28 rfl rfl (by kernel_rfl) hHeld (by intro w hSw; (try dsimp only at hSw); go_simp; try with_reducible rfl) ?_ (fun _ _ _ h => h)
      simp only [Act.put, lyA, lyB, lyC]
      refine tkW 13 29 rfl rfl (by kernel_rfl) hHeld (by intro w hSw; (try dsimp only at hSw); go_simp; try with_reducible rfl) ?_ (fun _ _ _ h => h)
      simp only [Act.put, lyA, lyB, lyC]
      refine tkW 14 30 rfl rfl (by kernel_rfl) hHeld (by intro w hSw; (try dsimp only at hSw); go_simp; try with_reducible rfl) ?_ (fun _ _ _ h => h)
      simp only [Act.put, lyA, lyB, lyC]
      refine tkW 15 31 rfl rfl (by kernel_rfl) hHeld (by intro w hSw; (try dsimp only at hSw); go_simp; try with_reducible rfl) ?_ (fun _ _ _ h => h)
      simp only [Act.put, lyA, lyB, lyC]
      refine tkW 16 32 rfl rfl (by kernel_rfl) hHeld (by intro w hSw; (try dsimp only at hSw); go_simp; try with_reducible rfl) ?_ (fun _ _ _ h => h)
      simp only [Act.put, lyA, lyB, lyC]
      refine wpAnyH_done (by kernel_rfl) ?_ _
      clear hHeld
      obtain ⟨wd, hwd⟩ : ∃ wd, wd = wx.drew := ⟨_, rfl⟩
      have HOd := Lib.hid (show OwnI wd w.heap.size 3 (.slice (some ⟨g, 0, none⟩) k d) (idxI K) by rw [hwd]; exact HOx.out.drew)
      have HBd := Lib.hid (show Below w.heap.size w wd by rw [hwd]; exact HBx.out.drew)
      rw [← hwd]
      clear hwd HOx HBx ck hcells
      have hkd : k ≤ d := by obtain ⟨_, _, e, h1, _⟩ := HOd.out.form; injection e with _ e1 e2; have := HKL.out; rw [idxI_len] at h1; omega
      have hml : (m : Int) ≤ (k : Int) := by omega
      have hkdi : (k : Int) ≤ (d : Int) := by omega
      have hsplit : idxI K = idxI (K.take m) ++ idxI (K.drop m) := by unfold idxI; rw [← List.map_append, List.take_append_drop]
      have hgd := (HOd.out.lt g rfl).2
      have hzd := HBd.out.size
      have hklI : (idxI K).length = k := by rw [idxI_len]; exact HKL.out
      have htl : (idxI (K.take m)).length = m := by rw [idxI_len, List.length_take]; have := HKL.out; omega
      have HDR := Lib.hid (show Ints wd w.heap.size wd.heap.size (.slice (some ⟨g, m, none⟩) (k - m) (d - m)) (idxI (K.drop m)) by
        have h1 := HOd.out.ints.dropW (i := m) (by omega)
        rw [Nat.zero_add] at h1
        have e : (idxI K).drop m = idxI (K.drop m) := by unfold idxI; rw [List.map_drop]
        rw [e] at h1; exact h1)
      have HPR := Lib.hid (show OwnI wd w.heap.size 3 (.slice (some ⟨g, 0, none⟩) m d) (idxI (K.take m)) by
        have h1 := HOd.out
        rw [hsplit] at h1
        have h2 := h1.prefix2
        rw [htl] at h2; exact h2)
      have HDZ := Lib.hid (show d = m → Ints wd w.heap.size wd.heap.size (.slice (some ⟨g, 0, none⟩) (k - m) 0) (idxI (K.drop m)) from fun hdm => by
        have e : idxI (K.drop m) = [] := by rw [List.drop_eq_nil_of_le (by have := HKL.out; omega)]; rfl
        rw [e, show k - m = 0 by omega]
        exact ⟨_, _, rfl, Nat.le_refl _, by omega, ⟨rfl, fun h0 => absurd h0 (by simp)⟩, fun x hx => by cases hx⟩)
      have hdl : (idxI (K.drop m)).length = k - m := by rw [idxI_len, List.length_drop]; have := HKL.out; omega
      have HTL := Lib.hid htl
      have HDL := Lib.hid hdl
      clear hsplit hklI htl hdl HOd
      go_wp2_with fail
      all_goals
        try (have hdm : m = d := (by omega); subst hdm)
        first | refine (copyIntsR_any _ _ _ (idxI (K.drop m)) wd HDR.out (Nat.le_refl _) (by have := HDL.out; omega)).mono ?_ | refine (copyIntsR_any _ _ _ (idxI (K.drop m)) wd (HDZ.out rfl) (Nat.le_refl _) (by have := HDL.out; omega)).mono ?_
        rintro e w2 ⟨v2, rfl, ho2, hb2⟩
        have HP2 := Lib.hid (HPR.out.keptBlock (w' := w2) fun g' hg' => hb2.block g' (by simp [Value.ownBlock] at hg'; omega))
        have H2 := Lib.hid ho2
        have HB2 := Lib.hid (HBd.out.trans (hb2.mono hzd))
        have hz2 := hb2.size
        clear ho2 hb2 HDR HDZ HPR HBd
        go_wp2_with (at_builtin; go_loud (first | (refine wpList_appendI SlI _ rfl (.tmp 41) (.tmp 43) rfl _ w.heap.size _ (idxI (K.take m)) rfl rfl HP2.out ⟨by omega, by omega⟩ (by have := HTL.out; omega) (by omega) ?_; intro v3 w3 ho3 hg3; have H3 := Lib.hid ho3; have HI3 := Lib.hid (H2.out.ints.kept (w' := w3) (fun j h1 h2 => hg3.other j h2 (fun e => by injection e with e; have e2 : j = g := e; omega))); have HB3 := Lib.hid (HB2.out.trans hg3.below); have hz3 := hg3.below.size; clear ho3 hg3) | (refine wpList_appendIs SlI _ rfl (.tmp 44) (.tmp 45) rfl _ _ _ w.heap.size _ (idxI (K.take m) ++ [(k : Int)]) (idxI (K.drop m)) rfl rfl H3.out HI3.out (by rw [List.length_append, List.length_singleton]; have := HTL.out; have := HDL.out; omega) (by omega) ?_; intro v4 w4 ho4 hg4; have H4 := Lib.hid ho4; have HB4 := Lib.hid (HB3.out.trans hg4.below); clear ho4 hg4)))
        have e4 : idxI (K.take m) ++ [(k : Int)] ++ idxI (K.drop m) = idxI (K.take m ++ k :: K.drop m) := by simp [idxI]
        rw [e4] at H4
        have hln : (idxI (K.take m ++ k :: K.drop m)).length = k + 1 := by rw [idxI_len]; exact HNew.out.len
        obtain ⟨A4, d4, hv4, _, _⟩ := H4.out.form
        subst hv4
        obtain ⟨g4, hg4, _⟩ := H4.out.at_ (i := 0) (by omega)
        subst hg4
        rw [hln] at H4 ⊢
        go_roundw
        case rel => exact ⟨k + 1, g4, d4, _, hlt, by go_num, rfl, H4.out, HB4.out, HNew.out⟩
        case measure => simp [intOf]; omega
end Go.Proofs.YtkgepklapglmdaaGreatDoor

namespace Go.Proofs.YtkgepklapglmdaaGreatDoor
open Go.RowKit
attribute [local go_sem ↓] Go.wp_at_zero Go.wp_at_succ

/-- owned rows: the outer block from b0 on, the rows' blocks from b1 on -/
def OwnR2 (w : World) (b0 b1 s tS tI : Nat) (v : Value) (xss : List (List Int)) : Prop :=
  ∃ vs, w.ownsRow b0 tS 1 v xss.length vs ∧ (∀ g, v.ownBlock = some g → g < s) ∧ (∀ k, k < xss.length → OwnI w b1 tI (gv vs k) (gr xss k) ∧ ∀ g, (gv vs k).ownBlock = some g → g < s) ∧
    ∀ j k, j < k → k < xss.length → ∀ g, (gv vs j).ownBlock = some g → (gv vs k).ownBlock ≠ some g
theorem OwnR2.toR {w : World} {b0 b1 s tS tI : Nat} {v : Value} {xss : List (List Int)} (h : OwnR2 w b0 b1 s tS tI v xss) (hb : b0 ≤ b1) : OwnR w b0 s tS tI v xss := by
  obtain ⟨vs, h1, h2, h3, h4⟩ := h
  exact ⟨vs, h1, h2, fun k hk => ⟨(h3 k hk).1.base hb, (h3 k hk).2⟩, h4⟩
theorem OwnR2.form {w : World} {b0 b1 s tS tI : Nat} {v : Value} {xss : List (List Int)} (h : OwnR2 w b0 b1 s tS tI v xss) (hb : b0 ≤ b1) : ∃ A c, v = .slice A xss.length c ∧ xss.length ≤ c ∧ c ≤ 2 ^ 63 - 1 := (h.toR hb).form
theorem OwnR2.ofEmpty {w : World} {b0 b1 s tS tI : Nat} {v : Value} (h : OwnR w b0 s tS tI v []) : OwnR2 w b0 b1 s tS tI v [] := by
  obtain ⟨vs, h1, h2, h3, h4⟩ := h
  exact ⟨vs, h1, h2, fun k hk => absurd hk (by simp), h4⟩
theorem OwnR2.keptS {w w' : World} {b0 b1 s tS tI : Nat} {v : Value} {xss : List (List Int)} (h : OwnR2 w b0 b1 s tS tI v xss) (hk : ∀ k, k < s → w'.heap[k]? = w.heap[k]?) : OwnR2 w' b0 b1 s tS tI v xss := by
  obtain ⟨vs, h1, h2, h3, h4⟩ := h
  exact ⟨vs, ownsRow_keptBlock h1 fun g hg => hk g (h2 g hg), h2, fun k hl => ⟨(h3 k hl).1.keptBlock fun g hg => hk g ((h3 k hl).2 g hg), (h3 k hl).2⟩, h4⟩
theorem OwnR2.wide {w : World} {b0 b1 s s' tS tI : Nat} {v : Value} {xss : List (List Int)} (h : OwnR2 w b0 b1 s tS tI v xss) (hs : s ≤ s') : OwnR2 w b0 b1 s' tS tI v xss := by
  obtain ⟨vs, h1, h2, h3, h4⟩ := h
  exact ⟨vs, h1, fun g hg => Nat.lt_of_lt_of_le (h2 g hg) hs, fun k hl => ⟨(h3 k hl).1, fun g hg => Nat.lt_of_lt_of_le ((h3 k hl).2 g hg) hs⟩, h4⟩
/-- a store into a list of ints below the rows -/
theorem OwnR2.setI {w : World} {b0 b1 s tS tI bI g n c : Nat} {v : Value} {xss : List (List Int)} {xs : List Int} (h : OwnR2 w b0 b1 s tS tI v xss) (hI : OwnI w bI tI (.slice (some ⟨g, 0, none⟩) n c) xs) (hg : g < b1) (hne : tS ≠ tI) (i : Nat) (u : Value) : OwnR2 (w.setCell ⟨g, i, none⟩ u) b0 b1 s tS tI v xss := by
  obtain ⟨vs, h1, h2, h3, h4⟩ := h
  exact ⟨vs, ownsRow_keptBlock h1 fun k hk => Below.heap_setCell _ _ _ _ (fun e => own_types h1 hI.1 hne hk (by rw [e]; rfl)), h2, fun k hl => ⟨(h3 k hl).1.keptBlock fun k' hk' => Below.heap_setCell _ _ _ _ (by have := ((h3 k hl).1.lt k' hk').1; show k' ≠ g; omega), (h3 k hl).2⟩, h4⟩
theorem wpList_appendR2 {P : Program} {t e tI : TypeId} (S : SlT P t e (.slice none 0 0) 1 24) (hte : e ≠ tI) {ops : Array Oper} {rest : List Oper} {o : Oper} {a : Act} {Q : Exit → Act → World → Prop} (w : World) (hgd : o.guard = none) (s x : Operand)
    (ho : o.op = .call { callee := .builtin .append, args := #[s, x], argTypes := #[t, t] }) (A : Option Addr) (m c : Nat)
    (b0 b1 sz : Nat) (v : Value) (xss : List (List Int)) (ys : List Int) (hs : a.eval s = v) (hx : a.eval x = .slice (some ⟨w.heap.size, 0, none⟩) 1 1) (hown : OwnR2 w b0 b1 sz e tI v xss) (hu : OwnI w sz tI (.slice A m c) ys)
    (hn : xss.length ≤ 1099511627776) (hb0 : b0 ≤ b1) (hb : b1 ≤ sz) (hsz : sz ≤ w.heap.size)
    (h : ∀ v' w', OwnR2 w' b0 b1 w'.heap.size e tI v' (xss ++ [ys]) → Below b0 w w' → (∀ b u zs, OwnI w b tI u zs → OwnI w' b tI u zs) → wpList P ops Q rest (a.put o.dst v') w') :
    wpList P ops Q (o :: rest) a (w.alloc (.cells #[.slice A m c] e)) := by
  obtain ⟨vs, h1, h2, h3, h4⟩ := hown
  have hvl := ownsRow_len h1
  refine wpList_append1 S w hgd s x ho #[.slice A m c] b0 v xss.length vs hs hx h1 rfl (by simp [Value.oneCell']) (by omega) (by omega) (by omega) fun v' w' k1 k2 k3 k4 => ?_
  have kold : ∀ k, k < w.heap.size → some k ≠ v.ownBlock → w'.heap[k]? = w.heap[k]? := fun k hk hne => by
    rw [k2.block k (by simp; omega) hne]
    exact Below.heap_alloc w _ k hk
  refine h v' w' ⟨vs ++ [.slice A m c], by simpa using k1, fun g hg => (k1.lt g hg).2, fun k hk => ?_, fun j k hjk hk g hg => ?_⟩ k3 fun b u zs hz => hz.keptBlock fun g hg => kold g (hz.lt g hg).2 fun e => own_types h1 hz.1 hte e.symm hg
  · rw [List.length_append, List.length_singleton] at hk
    by_cases hkl : k < xss.length
    · rw [gv_append_lt (by omega), gr_append_lt hkl]
      refine ⟨(h3 k hkl).1.keptBlock fun g hg => kold g ((h3 k hkl).1.lt g hg).2 fun e => own_types h1 (h3 k hkl).1.1 hte e.symm hg, fun g hg => ?_⟩
      have := (h3 k hkl).2 g hg
      omega
    · have hke : k = xss.length := by omega
      subst hke
      rw [gr_append_eq]
      rw [← hvl, gv_append_eq]
      refine ⟨(hu.base hb).keptBlock fun g hg => kold g (hu.lt g hg).2 fun e => own_types h1 hu.1 hte e.symm hg, fun g hg => ?_⟩
      have := (hu.lt g hg).2
      omega
  · rw [List.length_append, List.length_singleton] at hk
    rw [gv_append_lt (by omega)] at hg
    by_cases hkl : k < xss.length
    · rw [gv_append_lt (by omega)]
      exact h4 j k hjk hkl g hg
    · have hke : k = vs.length := by omega
      subst hke
      rw [gv_append_eq]
      intro e
      have := (hu.lt g e).1
      have := (h3 j (by omega)).2 g hg
      omega
set_option maxRecDepth 100000 in
set_option maxHeartbeats 8000000 in
theorem greedy_any (l1 h1 l2 h2 : Nat) (v u : Value) (W : Int) (ws xs : List Int) (w : World) (hvw : vWan W ws xs = true) (h : Ints w l1 h1 v ws) (hh1 : h1 ≤ w.heap.size) (hy : Ints w l2 h2 u xs) (hh2 : h2 ≤ w.heap.size) :
    Calls Tryz.prog 38 #[.int .i64 W, v, u] w fun e w' => ∃ v', e = .returned v' ∧ OwnR w' w.heap.size w'.heap.size 26 3 v' (gsL W ws xs) ∧ Below w.heap.size w w' := by
  obtain ⟨A, c, rfl, hc, hm⟩ := h.form
  obtain ⟨B, d, rfl, hd, hm2⟩ := hy.form
  have hva := vWan_iff.1 hvw
  have hvd := vWid_iff.1 hva.1
  obtain ⟨n, hn⟩ : ∃ n, n = ws.length := ⟨_, rfl⟩
  have hn6 : n ≤ 6 := by omega
  have hn1 : 1 ≤ n := by omega
  have hW60 : W ≤ 60 := hvd.2.1
  have hW1 : 1 ≤ W := hvd.1
  have HV := Lib.hid hva.1
  have HN := Lib.hid hn
  have HXL := Lib.hid hva.2.1
  have HX0 := Lib.hid (show ∀ i, 0 ≤ gi xs i from gi_nn fun i hi => (hva.2.2.1 i hi).1)
  have HXS := Lib.hid hva.2.2.2
  have HWR := Lib.hid (show ∀ i, i < ws.length → 1 ≤ gi ws i ∧ gi ws i ≤ W from fun i hi => vWid_w hva.1 hi)
  have HGS := Lib.hid (show gsL W ws xs = grdL W ws (kOrd ws) xs by unfold gsL; rw [hvw, if_pos rfl])
  have HGL := Lib.hid (gsL_len W ws xs)
  have HKO := Lib.hid (kOrd_desc hva.1).1
  have HKL := Lib.hid (show (kOrd ws).length = ws.length from ordG_len (kOrd_desc hva.1).1)
  have hwn : (ws.length : Int) = (n : Int) := by omega
  obtain ⟨wa, hwa⟩ : ∃ wa, wa = w.alloc (.cells #[] 26) := ⟨_, rfl⟩
  have hza : wa.heap.size = w.heap.size + 1 := by rw [hwa]; simp
  have hba : Below w.heap.size w wa := by rw [hwa]; exact (Below.refl _ _).alloc (Nat.le_refl _) _
  have HE0 := Lib.hid (show OwnR wa w.heap.size wa.heap.size 26 3 (.slice (some ⟨w.heap.size, 0, none⟩) 0 0) [] by
    rw [hza, hwa]; exact OwnR.empty w w.heap.size 26 3 (Nat.le_refl _))
  have HWD := Lib.hid (h.below hba hh1)
  have HXD := Lib.hid (hy.below hba hh2)
  have HBA := Lib.hid hba
  clear hva hvd hvw hn h hy hba
  go_enter Tryz.func38, Tryz.ntmps38
  go_wp2_with fail
  rw [← hwa]
  have HWA := Lib.hid hwa
  clear hwa
  refine (widest_any l1 h1 _ W ws wa HV.out HWD.out (by omega)).mono ?_
  rintro e w2 ⟨v2, rfl, ho2, hb2⟩
  obtain ⟨K, hKK⟩ : ∃ K, K = kOrd ws := ⟨_, rfl⟩
  rw [← hKK] at HGS HKO HKL ho2
  clear hKK
  have hkl : (idxI K).length = n := by rw [idxI_len]; have := HKL.out; have := HN.out; omega
  obtain ⟨A2, dk, rfl, hdk, _⟩ := ho2.form
  obtain ⟨gk, hgk, hgk1, hgk2, _⟩ := ho2.at_ (i := 0) (by omega)
  subst hgk
  rw [hkl] at ho2 hdk ⊢
  have HK2 := Lib.hid ho2
  have HB2 := Lib.hid (HBA.out.trans (hb2.mono (by omega)))
  have HX2 := Lib.hid (HXD.out.below hb2 (by omega))
  have HE2 := Lib.hid (HE0.out.kept (w' := w2) (.of_below hb2 (Nat.le_refl _)))
  have hz2 := hb2.size
  clear ho2 hb2 hkl HE0
  go_wp2_with fail
  have hxn : xs.length = n := by have := HXL.out; have := HN.out; omega
  refine (copyIntsR_any _ _ _ xs w2 HX2.out (by omega) (by omega)).mono ?_
  rintro e w3 ⟨v3, rfl, ho3, hb3⟩
  obtain ⟨A4, d4, rfl, hd4, hd5⟩ := ho3.form
  obtain ⟨g, hg, hg3, hg4, _, _, _⟩ := ho3.at_ (i := 0) (by omega)
  subst hg
  rw [hxn] at ho3 hd4 ⊢
  have HL0 := Lib.hid ho3
  have HK3 := Lib.hid (HK2.out.keptBlock (w' := w3) fun g' hg' => hb3.block g' (by simp [Value.ownBlock] at hg'; omega))
  have HB3 := Lib.hid (HB2.out.trans (hb3.mono (by omega)))
  have HE3 := Lib.hid (OwnR2.ofEmpty (b1 := w3.heap.size) (((HE2.out.kept (w' := w3) fun k _ hk => hb3.block k (by omega))).wide (Nat.le_refl _) (show wa.heap.size ≤ w3.heap.size by have := hb3.size; omega)))
  have hz3 := hb3.size
  clear ho3 hb3 hxn HK2 HB2 HE2
  go_wp2
  go_loopw [7, 10, 11, 12, 13] (fun o _ _ _ _ wr => ∃ (l : List Int) (out : List (List Int)), Hid (OwnR2 wr w.heap.size w3.heap.size wr.heap.size 26 3 o out) ∧ Hid (OwnI wr w2.heap.size 3 (.slice (some ⟨g, 0, none⟩) n d4) l) ∧ Hid (OwnI wr wa.heap.size 3 (.slice (some ⟨gk, 0, none⟩) n dk) (idxI K)) ∧ Hid (Below w.heap.size w wr) ∧ w3.heap.size ≤ wr.heap.size ∧ Hid (gsL W ws xs = out ++ grdL W ws K l ∧ l.length = ws.length ∧ (∀ i, 0 ≤ gi l i) ∧ l.sum ≤ 60)) (fun o _ _ _ _ _ => 61 - lenG o)
  case atStart => exact ⟨xs, [], HE3.out, HL0.out, HK3.out, HB3.out, Nat.le_refl _, by show gsL W ws xs = [] ++ _ ∧ _; exact ⟨HGS.out, HXL.out, HX0.out, HXS.out⟩⟩
  case round =>
    obtain ⟨l, out, HO, HL, HK, HBw, hzw, HD⟩ := hrel
    clear HE3 HL0 HK3 HB3
    obtain ⟨wo, rfl⟩ : ∃ wo : World, wo = wr := ⟨_, rfl⟩
    obtain ⟨Ao, co, rfl, hco, hco2⟩ := HO.out.form (by omega)
    have hln : l.length = n := by have := HD.out.2.1; have := HN.out; omega
    have hsum := sumI_all l
    have hpos := sumG_pos (ys := l) fun i _ => HD.out.2.2.1 i
    have hout : out.length + (grdL W ws K l).length ≤ 60 := by
      have := HGL.out
      rw [HD.out.1, List.length_append] at this
      exact this
    have hbd : ∀ i, i < l.length → 0 ≤ gi l i ∧ gi l i ≤ 1000 := fun i hi => ⟨HD.out.2.2.1 i, by have := hpos.2 i hi; have := HD.out.2.2.2; omega⟩
    have HP := Lib.hid hpos
    have HU := Lib.hid hout
    have HBD := Lib.hid hbd
    have HSU := Lib.hid hsum
    have HLN := Lib.hid hln
    clear hpos hbd hsum hout hln
    go_wp2_with fail
    refine (sTotalG_any _ _ _ l wo HL.out.ints (by have := HLN.out; omega) HBD.out).mono ?_
    rintro e x1 ⟨rfl, hx1⟩
    subst hx1
    rw [HSU.out]
    obtain ⟨sm, hsm⟩ : ∃ s, s = l.sum := ⟨_, rfl⟩
    rw [← hsm]
    have HSM := Lib.hid hsm
    clear hsm
    by_cases hs0 : 0 < sm
    rotate_left
    · have hs1 : ¬ sm > 0 := hs0
      have HR := Lib.hid (show OwnR wo w.heap.size wo.heap.size 26 3 (.slice Ao out.length co) (gsL W ws xs) by
        have e : gsL W ws xs = out := by rw [HD.out.1, grdL_end (by rw [← HSM.out]; exact hs0), List.append_nil]
        rw [e]; exact HO.out.toR (by omega))
      go_wp2
      go_ret
      exact ⟨_, rfl, HR.out, HBw.out⟩
    have hs1 : sm > 0 := hs0
    have HST := Lib.hid (grdL_step (W := W) (ws := ws) (K := K) HWR.out (by omega) HKO.out HD.out.2.1 HD.out.2.2.1 (by rw [← HSM.out]; exact hs0))
    go_wp2_with (at_make; refine wpList_makeI SlI _ rfl _ _ rfl wo.heap.size n rfl rfl (by omega) (Nat.le_refl _) ?_; intro w5 ho5 hb5 hs5)
    have HL5 := Lib.hid (HL.out.keptBlock (w' := w5) fun g' hg' => hb5.block g' (by simp [Value.ownBlock] at hg'; omega))
    have HK5 := Lib.hid (HK.out.keptBlock (w' := w5) fun g' hg' => hb5.block g' (by simp [Value.ownBlock] at hg'; omega))
    have HC5 := Lib.hid ho5
    have HO5 := Lib.hid (HO.out.keptS (w' := w5) fun k hk => hb5.block k hk)
    have HB5 := Lib.hid (HBw.out.trans (hb5.mono (by omega)))
    clear ho5 hb5
    go_wp2
    go_loopw [10, 12, 13] (fun r i _ wx => ∃ j : Nat, j ≤ n ∧ i = .int .i64 j ∧ r = .int .i64 ((K.take j).foldl (stepG ws) ⟨List.replicate ws.length 0, l, W⟩).r ∧ Hid (OwnI wx w2.heap.size 3 (.slice (some ⟨g, 0, none⟩) n d4) ((K.take j).foldl (stepG ws) ⟨List.replicate ws.length 0, l, W⟩).l) ∧ Hid (OwnI wx wo.heap.size 3 (.slice (some ⟨wo.heap.size, 0, none⟩) n n) ((K.take j).foldl (stepG ws) ⟨List.replicate ws.length 0, l, W⟩).c) ∧ Hid (OwnI wx wa.heap.size 3 (.slice (some ⟨gk, 0, none⟩) n dk) (idxI K)) ∧ Hid (OwnR2 wx w.heap.size w3.heap.size wo.heap.size 26 3 (.slice Ao out.length co) out) ∧ Hid (Below w.heap.size w wx) ∧ wo.heap.size < wx.heap.size) (fun _ i _ _ => n - (intOf i).toNat)
    case atStart => exact ⟨0, Nat.zero_le _, rfl, rfl, HL5.out, by have := HC5.out; show OwnI _ _ _ _ (List.replicate ws.length 0); rw [← HN.out]; exact this, HK5.out, HO5.out, HB5.out, hs5⟩
    case round =>
      obtain ⟨j, hj, rfl, rfl, HLi, HCi, HKi, HOi, HBi, hzi⟩ := hrel
      clear HL5 HC5 HO5 HB5 HK5
      obtain ⟨wx, rfl⟩ : ∃ wx : World, wx = wr := ⟨_, rfl⟩
      have hSn := take_snd (W := W) (ws := ws) (l := l) (K := K) (fun i hi => (HWR.out i hi).1) (by omega) HKO.out HD.out.2.1 HD.out.2.2.1 j
      obtain ⟨s, hs⟩ : ∃ s, s = ((K.take j).foldl (stepG ws) ⟨List.replicate ws.length 0, l, W⟩) := ⟨_, rfl⟩
      rw [← hs] at hSn HLi HCi ⊢
      have HSN := Lib.hid hSn
      have HS := Lib.hid hs
      clear hSn hs
      have hsl : s.l.length = n := by have := HSN.out.ll; have := HN.out; omega
      have hsc : s.c.length = n := by have := HSN.out.cl; have := HN.out; omega
      have HSL := Lib.hid hsl
      have HSC := Lib.hid hsc
      clear hsl hsc
      by_cases hlt : j < n
      rotate_left
      · have hnj : ¬ (j : Int) < (n : Int) := by omega
        have HJ := Lib.hid (show s = patG W ws K l by
          rw [HS.out, List.take_of_length_le (by have := HKL.out; have := HN.out; omega)]; rfl)
        have hol : out.length ≤ 60 := by have := HU.out; omega
        go_wp2_with (at_builtin; refine wpList_appendR2 SlR (by decide) _ rfl (.tmp 82) (.tmp 84) rfl _ _ _ w.heap.size w3.heap.size wo.heap.size _ _ s.c rfl rfl HOi.out HCi.out (by omega) (by omega) hzw (by omega) ?_; intro v6 w6 ho6 hb6 hk6; have HO6 := Lib.hid ho6; have HL6 := Lib.hid (hk6 _ _ _ HLi.out); have HK6 := Lib.hid (hk6 _ _ _ HKi.out); have HB6 := Lib.hid (HBi.out.trans hb6); have hz6 := hb6.size; clear ho6 hb6 hk6)
        have hfo := HO6.out.form (by omega)
        obtain ⟨A6, c6, rfl, _, _⟩ := hfo
        go_roundw
        case rel =>
          refine ⟨s.l, out ++ [s.c], HO6.out, HL6.out, HK6.out, HB6.out, by omega, ?_⟩
          show gsL W ws xs = _ ∧ _
          have hp := pat_some (W := W) (ws := ws) (l := l) (K := K) HWR.out (by omega) HKO.out HD.out.2.1 HD.out.2.2.1 (by rw [← HSM.out]; exact hs0)
          have h60 := HD.out.2.2.2
          rw [← HJ.out] at hp
          refine ⟨?_, HSN.out.ll, HSN.out.l0', by omega⟩
          rw [HD.out.1, HST.out, ← HJ.out, List.append_assoc]; rfl
        case measure =>
          have h1 := HU.out
          rw [HST.out, List.length_cons] at h1
          simp [lenG]; omega
      have hjK : j < K.length := by have := HKL.out; have := HN.out; omega
      obtain ⟨kk, hkk⟩ : ∃ k, k = K[j] := ⟨_, rfl⟩
      have hkn : kk < n := by have := (HKO.out.2 K[j]).1 (List.getElem_mem hjK); have := HN.out; omega
      have ck := HKi.out.ints.cell' (k := j) (by rw [idxI_len]; exact hjK)
      rw [Nat.zero_add, gi_idxI hjK, ← hkk] at ck
      have hWx := (HWD.out.kept (w' := wx) fun k _ hk => by
        have h1 := HBi.out.block k (show k < w.heap.size by omega)
        have h2 := HBA.out.block k (show k < w.heap.size by omega)
        rw [h1, h2])
      obtain ⟨b, o, hA, hbl, hbh, ca, _⟩ := hWx.cell (k := kk) (by have := HN.out; omega)
      clear hWx
      subst hA
      obtain ⟨g1, hg1, _, _, cl, fl, _⟩ := HLi.out.at_ (i := kk) (by have := HSL.out; omega)
      obtain ⟨g2, hg2, _, _, cc, fc, _⟩ := HCi.out.at_ (i := kk) (by have := HSC.out; omega)
      simp only [Option.some.injEq, Addr.mk.injEq, and_true] at hg1 hg2
      subst hg1 hg2
      have hwk := HWR.out kk (by have := HN.out; omega)
      have hak : 0 ≤ gi s.l kk ∧ gi s.l kk ≤ 60 := by
        have h1 := HSN.out.l0' kk
        have h2 := HSN.out.c0 kk
        have h3 := HSN.out.sum kk
        have h4 := HP.out.2 kk (by have := HLN.out; omega)
        have h5 := HD.out.2.2.2
        omega
      have hrk : 0 ≤ s.r ∧ s.r ≤ W := ⟨HSN.out.r0, room_le HSN.out fun i hi => (HWR.out i hi).1⟩
      have hF := fold_snoc ws K ⟨List.replicate ws.length 0, l, W⟩ hjK
      rw [← HS.out, ← hkk] at hF
      obtain ⟨a, ha⟩ : ∃ a, a = gi s.l kk := ⟨_, rfl⟩
      obtain ⟨bw, hbw⟩ : ∃ a, a = gi ws kk := ⟨_, rfl⟩
      obtain ⟨r, hr⟩ : ∃ a, a = s.r := ⟨_, rfl⟩
      rw [← ha] at cl hak
      rw [← hbw] at ca hwk
      rw [← hr] at hrk ⊢
      obtain ⟨q, hq⟩ : ∃ q, q = r / bw := ⟨_, rfl⟩
      have hq0 : 0 ≤ q := by rw [hq]; exact Int.ediv_nonneg (by omega) (by omega)
      have hq1 : q ≤ 60 := by rw [hq]; exact Int.le_trans (Int.ediv_le_self _ (by omega)) (by omega)
      have hqm : q * bw ≤ r := by rw [hq]; exact Int.ediv_mul_le _ (by omega)
      have hqt : r.tdiv bw = q := by rw [hq]; exact Int.tdiv_eq_ediv_of_nonneg (by omega)
      have hqe : r / bw = q := hq.symm
      obtain ⟨m, hm⟩ : ∃ m, m = min a q := ⟨_, rfl⟩
      have hmin : min a q = m := hm.symm
      have hm0 : 0 ≤ m ∧ m ≤ a ∧ m ≤ q := by omega
      obtain ⟨p, hp⟩ : ∃ p, p = m * bw := ⟨_, rfl⟩
      have hp1 : p ≤ r := by rw [hp]; exact Int.le_trans (Int.mul_le_mul_of_nonneg_right hm0.2.2 (by omega)) hqm
      have hp0 : 0 ≤ p := by rw [hp]; exact Int.mul_nonneg hm0.1 (by omega)
      have HG := Lib.hid (show (K.take (j + 1)).foldl (stepG ws) ⟨List.replicate ws.length 0, l, W⟩ = ⟨s.c.set kk m, s.l.set kk (a - m), r - p⟩ by rw [hF, hp, hm, hq, ha, hbw, hr]; rfl)
      have gq : IntKind.i64.wrap q = q := IntWalk.i64_in _ (by omega)
      have gm : IntKind.i64.wrap (a - m) = a - m := IntWalk.i64_in _ (by omega)
      have gp : IntKind.i64.wrap p = p := IntWalk.i64_in _ (by omega)
      have gr : IntKind.i64.wrap (r - p) = r - p := IntWalk.i64_in _ (by omega)
      have hpe : m * bw = p := hp.symm
      have hbz : ¬ bw = 0 := by omega
      have j0 : (0 : Int) ≤ (j : Int) := by omega
      have j1 : (j : Int) < (n : Int) := by omega
      have k0 : (0 : Int) ≤ (kk : Int) := by omega
      have k1 : (kk : Int) < (n : Int) := by omega
      have hb0 : 1 ≤ bw := by omega
      have HMI := Lib.hid (show I64 m ∧ I64 (a - m) from ⟨⟨by omega, by omega⟩, ⟨by omega, by omega⟩⟩)
      have hzA : b < w.heap.size ∧ w.heap.size < gk ∧ gk < g ∧ g < wo.heap.size := by omega
      clear ha hbw hr hq hm hp hF hkk hak hwk hrk hqm hq0 hq1 hm0 hp1 hp0 hbl hbh
      go_wp2
      refine wp_region_held_drew (S := fun w' => w'.cell? ⟨gk, j, none⟩ = some (.int .i64 ((kk : Int))) ∧ w'.cell? ⟨b, o + kk, none⟩ = some (.int .i64 bw) ∧ w'.cell? ⟨g, kk, none⟩ = some (.int .i64 a)) (by kernel_rfl) ?_ (fun hHeld => ?_)
      · (first | (try dsimp only); go_keep | (go_split_ands; refine ⟨?_, ?_, ?_⟩ <;> first | assumption))
      refine tkW 0 32 rfl rfl (by kernel_rfl) hHeld (by intro w hSw; (try dsimp only at hSw); go_simp; try with_reducible rfl) ?_ (fun _ _ _ h => h)
      simp only [Act.put, lyA, lyB, lyC]
      refine tkW 1 33 rfl rfl (by kernel_rfl) hHeld (by intro w hSw; (try dsimp only at hSw); go_simp; try with_reducible rfl) ?_ (fun _ _ _ h => h)
      simp only [Act.put, lyA, lyB, lyC]
      refine tkW 2 34 rfl rfl (by kernel_rfl) hHeld (by intro w hSw; (try dsimp only at hSw); go_simp; try with_reducible rfl) ?_ (fun _ _ _ h => h)
      simp only [Act.put, lyA, lyB, lyC]
      refine tkW 3 35 rfl rfl (by kernel_rfl) hHeld (by intro w hSw; (try dsimp only at hSw); go_simp; try with_reducible rfl) ?_ (fun _ _ _ h => h)
      simp only [Act.put, lyA, lyB, lyC]
      refine tkW 4 36 rfl rfl (by kernel_rfl) hHeld (by intro w hSw; (try dsimp only at hSw); go_simp; try with_reducible rfl) ?_ (fun _ _ _ h => h)
      simp only [Act.put, lyA, lyB, lyC]
      refine tkW 5 37 rfl rfl (by kernel_rfl) hHeld (by intro w hSw; (try dsimp only at hSw); go_simp; try with_reducible rfl) ?_ (fun _ _ _ h => h)
      simp only [Act.put, lyA, lyB, lyC]
      refine tkW 6 38 rfl rfl (by kernel_rfl) hHeld (by intro w hSw; (try dsimp only at hSw); go_simp; try with_reducible rfl) ?_ (fun _ _ _ h => h)
      simp only [Act.put, lyA, lyB, lyC]
      refine tkW 7 39 rfl rfl (by kernel_rfl) hHeld (by intro w hSw; (try dsimp only at hSw); go_simp; try with_reducible rfl) ?_ (fun _ _ _ h => h)
      simp only [Act.put, lyA, lyB, lyC]
      refine tkW 8 40 rfl rfl (by kernel_rfl) hHeld (by intro w hSw; (try dsimp only at hSw); go_simp; try with_reducible rfl) ?_ (fun _ _ _ h => h)
      simp only [Act.put, lyA, lyB, lyC]
      refine tkW 9 41 rfl rfl (by kernel_rfl) hHeld (by intro w hSw; (try dsimp only at hSw); go_simp; try with_reducible rfl) ?_ (fun _ _ _ h => h)
      simp only [Act.put, lyA, lyB, lyC]
      refine tkW 10 42 rfl rfl (by kernel_rfl) hHeld (by intro w hSw; (try dsimp only at hSw); go_simp; try with_reducible rfl) ?_ (fun _ _ _ h => h)
      simp only [Act.put, lyA, lyB, lyC]
      refine tkW 11 43 rfl rfl (by kernel_rfl) hHeld (by intro w hSw; (try dsimp only at hSw); go_simp; try with_reducible rfl) ?_ (fun _ _ _ h => h)
      simp only [Act.put, lyA, lyB, lyC]
      refine tkW 12 44 rfl rfl (by kernel_rfl) hHeld (by intro w hSw; (try dsimp only at hSw); go_simp; try with_reducible rfl) ?_ (fun _ _ _ h => h)
      simp only [Act.put, lyA, lyB, lyC]
      refine tkW 13 45 rfl rfl (by kernel_rfl) hHeld (by intro w hSw; (try dsimp only at hSw); go_simp; try with_reducible rfl) ?_ (fun _ _ _ h => h)
      simp only [Act.put, lyA, lyB, lyC]
      refine tkW 14 46 rfl rfl (by kernel_rfl) hHeld (by intro w hSw; (try dsimp only at hSw); go_simp; try with_reducible rfl) ?_ (fun _ _ _ h => h)
      simp only [Act.put, lyA, lyB, lyC]
      refine tkW 15 47 rfl rfl (by kernel_rfl) hHeld (by intro w hSw; (try dsimp only at hSw); go_simp; try with_reducible rfl) ?_ (fun _ _ _ h => h)
      simp only [Act.put, lyA, lyB, lyC]
      refine tkW 16 48 rfl rfl (by kernel_rfl) hHeld (by intro w hSw; (try dsimp only at hSw); go_simp; try with_reducible rfl) ?_ (fun _ _ _ h => h)
      simp only [Act.put, lyA, lyB, lyC]
      refine tkW 17 13 rfl rfl (by kernel_rfl) hHeld (by intro w hSw; (try dsimp only at hSw); go_simp; try with_reducible rfl) ?_ (fun _ _ _ h => h)
      simp only [Act.put, lyA, lyB, lyC]
      refine wpAnyH_done (by kernel_rfl) ?_ _
      clear hHeld
      clear hmin hqt hqe gq
      obtain ⟨wd, hwd⟩ : ∃ wd, wd = wx.drew := ⟨_, rfl⟩
      have HLd := Lib.hid (show OwnI wd w2.heap.size 3 (.slice (some ⟨g, 0, none⟩) n d4) s.l by rw [hwd]; exact HLi.out.drew)
      have HCd := Lib.hid (show OwnI wd wo.heap.size 3 (.slice (some ⟨wo.heap.size, 0, none⟩) n n) s.c by rw [hwd]; exact HCi.out.drew)
      have HKd := Lib.hid (show OwnI wd wa.heap.size 3 (.slice (some ⟨gk, 0, none⟩) n dk) (idxI K) by rw [hwd]; exact HKi.out.drew)
      have HOd := Lib.hid (show OwnR2 wd w.heap.size w3.heap.size wo.heap.size 26 3 (.slice Ao out.length co) out by rw [hwd]; exact HOi.out)
      have HBd := Lib.hid (show Below w.heap.size w wd by rw [hwd]; exact HBi.out.drew)
      have hzd : wo.heap.size < wd.heap.size := by rw [hwd]; exact hzi
      replace ck : wd.cell? ⟨gk, j, none⟩ = some (.int .i64 (kk : Int)) := by rw [hwd]; exact ck
      replace cl : wd.cell? ⟨g, kk, none⟩ = some (.int .i64 a) := by rw [hwd]; exact cl
      replace fl : wd.frozen? ⟨g, kk, none⟩ = false := by rw [hwd]; exact fl
      replace cc : wd.cell? ⟨wo.heap.size, kk, none⟩ = some (.int .i64 (gi s.c kk)) := by rw [hwd]; exact cc
      replace fc : wd.frozen? ⟨wo.heap.size, kk, none⟩ = false := by rw [hwd]; exact fc
      replace ca : wd.cell? ⟨b, o + kk, none⟩ = some (.int .i64 bw) := by rw [hwd]; exact ca
      rw [← hwd]
      clear hwd HLi HCi HOi HBi HKi hzi
      obtain ⟨we, hwe⟩ : ∃ we, we = wd.setCell ⟨wo.heap.size, kk, none⟩ (.int .i64 m) := ⟨_, rfl⟩
      have hoth : ∀ k, k ≠ wo.heap.size → we.heap[k]? = wd.heap[k]? := fun k hk => by rw [hwe]; exact Below.heap_setCell _ _ _ _ hk
      have ck2 : we.cell? ⟨gk, j, none⟩ = some (.int .i64 (kk : Int)) := (World.cell?_of_block (hoth gk (by omega))).trans ck
      have cl2 : we.cell? ⟨g, kk, none⟩ = some (.int .i64 a) := (World.cell?_of_block (hoth g (by omega))).trans cl
      have fl2 : we.frozen? ⟨g, kk, none⟩ = false := (World.frozen?_of_block (hoth g (by omega))).trans fl
      have ca2 : we.cell? ⟨b, o + kk, none⟩ = some (.int .i64 bw) := (World.cell?_of_block (hoth b (by omega))).trans ca
      have HLe := Lib.hid (HLd.out.keptBlock (w' := we) fun g' hg' => hoth g' (by simp [Value.ownBlock] at hg'; omega))
      have HKe := Lib.hid (HKd.out.keptBlock (w' := we) fun g' hg' => hoth g' (by simp [Value.ownBlock] at hg'; omega))
      have HCe := Lib.hid (show OwnI we wo.heap.size 3 (.slice (some ⟨wo.heap.size, 0, none⟩) n n) (s.c.set kk m) by rw [hwe]; exact HCd.out.setI kk HMI.out.1)
      have HOe := Lib.hid (HOd.out.keptS (w' := we) fun k hk => hoth k (by omega))
      have HBe := Lib.hid (show Below w.heap.size w we by rw [hwe]; exact HBd.out.setCell (p := ⟨wo.heap.size, kk, none⟩) (show w.heap.size ≤ wo.heap.size by omega) _)
      have hze : wo.heap.size < we.heap.size := by rw [hwe]; simpa [World.setCell] using hzd
      have HWE := Lib.hid hwe
      clear hwe hoth HLd HKd HCd HOd HBd hzd
      have CK2 := Lib.hid ck2
      have CL2 := Lib.hid cl2
      have FL2 := Lib.hid fl2
      have CA2 := Lib.hid ca2
      clear ck2 cl2 fl2 ca2
      go_wp2
      rw [← HWE.out]
      clear ck cl fl cc fc ca HWE
      have ck := CK2.out
      have cl := CL2.out
      have fl := FL2.out
      have ca := CA2.out
      clear CK2 CL2 FL2 CA2
      have n1 : ¬ g = gk := by omega
      have n2 : ¬ gk = g := by omega
      have n3 : ¬ b = g := by omega
      have n4 : ¬ g = b := by omega
      obtain ⟨wy, hwy⟩ : ∃ wy, wy = we.setCell ⟨g, kk, none⟩ (.int .i64 (a - m)) := ⟨_, rfl⟩
      have HL2 := Lib.hid (show OwnI wy w2.heap.size 3 (.slice (some ⟨g, 0, none⟩) n d4) (s.l.set kk (a - m)) by rw [hwy]; exact HLe.out.setI kk HMI.out.2)
      have HC2 := Lib.hid (show OwnI wy wo.heap.size 3 (.slice (some ⟨wo.heap.size, 0, none⟩) n n) (s.c.set kk m) by
        rw [hwy]; exact HCe.out.keptBlock fun g' hg' => Below.heap_setCell _ _ _ _ (by simp [Value.ownBlock] at hg'; show g' ≠ g; omega))
      have HK2 := Lib.hid (show OwnI wy wa.heap.size 3 (.slice (some ⟨gk, 0, none⟩) n dk) (idxI K) by
        rw [hwy]; exact HKe.out.keptBlock fun g' hg' => Below.heap_setCell _ _ _ _ (by simp [Value.ownBlock] at hg'; show g' ≠ g; omega))
      have HO2 := Lib.hid (show OwnR2 wy w.heap.size w3.heap.size wo.heap.size 26 3 (.slice Ao out.length co) out by
        rw [hwy]; exact HOe.out.setI HLe.out (by omega) (by decide) kk _)
      have HB2 := Lib.hid (show Below w.heap.size w wy by rw [hwy]; exact HBe.out.setCell (p := ⟨g, kk, none⟩) (show w.heap.size ≤ g by omega) _)
      have HZ2 := Lib.hid (show wo.heap.size < wy.heap.size by rw [hwy]; simpa [World.setCell] using hze)
      have HWY := Lib.hid hwy
      clear hwy HLe HCe HKe HOe HBe hze
      refine wp_region_last (S := fun w' => w'.cell? ⟨gk, j, none⟩ = some (.int .i64 ((kk : Int))) ∧ w'.cell? ⟨g, kk, none⟩ = some (.int .i64 a)) 15 (by kernel_rfl) ?_ (fun hHeld => ?_)
      · (first | (try dsimp only); go_keep | (go_split_ands; refine ⟨?_, ?_⟩ <;> first | assumption))
      refine AnyL.take (i := 0) (oi := ⟨some 56, _, _, _, _, _⟩) (v := _) rfl (by kernel_rfl) (by kernel_rfl) (by kernel_rfl) (by kernel_rfl) (fun _ _ _ h => h) (Or.inl ⟨by kernel_rfl, by intro w hSw; (try dsimp only at hSw); go_simp; try with_reducible rfl⟩) (by assumption) ?_
      simp only [Act.put, lyA, lyB, lyC]
      refine AnyL.take (i := 1) (oi := ⟨some 57, _, _, _, _, _⟩) (v := _) rfl (by kernel_rfl) (by kernel_rfl) (by kernel_rfl) (by kernel_rfl) (fun _ _ _ h => h) (Or.inl ⟨by kernel_rfl, by intro w hSw; (try dsimp only at hSw); go_simp; try with_reducible rfl⟩) (by assumption) ?_
      simp only [Act.put, lyA, lyB, lyC]
      refine AnyL.take (i := 2) (oi := ⟨some 58, _, _, _, _, _⟩) (v := _) rfl (by kernel_rfl) (by kernel_rfl) (by kernel_rfl) (by kernel_rfl) (fun _ _ _ h => h) (Or.inl ⟨by kernel_rfl, by intro w hSw; (try dsimp only at hSw); go_simp; try with_reducible rfl⟩) (by assumption) ?_
      simp only [Act.put, lyA, lyB, lyC]
      refine AnyL.take (i := 3) (oi := ⟨some 59, _, _, _, _, _⟩) (v := _) rfl (by kernel_rfl) (by kernel_rfl) (by kernel_rfl) (by kernel_rfl) (fun _ _ _ h => h) (Or.inl ⟨by kernel_rfl, by intro w hSw; (try dsimp only at hSw); go_simp; try with_reducible rfl⟩) (by assumption) ?_
      simp only [Act.put, lyA, lyB, lyC]
      refine AnyL.take (i := 4) (oi := ⟨some 60, _, _, _, _, _⟩) (v := _) rfl (by kernel_rfl) (by kernel_rfl) (by kernel_rfl) (by kernel_rfl) (fun _ _ _ h => h) (Or.inl ⟨by kernel_rfl, by intro w hSw; (try dsimp only at hSw); go_simp; try with_reducible rfl⟩) (by assumption) ?_
      simp only [Act.put, lyA, lyB, lyC]
      refine AnyL.take (i := 5) (oi := ⟨some 61, _, _, _, _, _⟩) (v := _) rfl (by kernel_rfl) (by kernel_rfl) (by kernel_rfl) (by kernel_rfl) (fun _ _ _ h => h) (Or.inl ⟨by kernel_rfl, by intro w hSw; (try dsimp only at hSw); go_simp; try with_reducible rfl⟩) (by assumption) ?_
      simp only [Act.put, lyA, lyB, lyC]
      refine AnyL.take (i := 6) (oi := ⟨some 62, _, _, _, _, _⟩) (v := _) rfl (by kernel_rfl) (by kernel_rfl) (by kernel_rfl) (by kernel_rfl) (fun _ _ _ h => h) (Or.inl ⟨by kernel_rfl, by intro w hSw; (try dsimp only at hSw); go_simp; try with_reducible rfl⟩) (by assumption) ?_
      simp only [Act.put, lyA, lyB, lyC]
      refine AnyL.take (i := 7) (oi := ⟨some 63, _, _, _, _, _⟩) (v := _) rfl (by kernel_rfl) (by kernel_rfl) (by kernel_rfl) (by kernel_rfl) (fun _ _ _ h => h) (Or.inl ⟨by kernel_rfl, by intro w hSw; (try dsimp only at hSw); go_simp; try with_reducible rfl⟩) (by assumption) ?_
      simp only [Act.put, lyA, lyB, lyC]
      refine AnyL.take (i := 8) (oi := ⟨some 64, _, _, _, _, _⟩) (v := _) rfl (by kernel_rfl) (by kernel_rfl) (by kernel_rfl) (by kernel_rfl) (fun _ _ _ h => h) (Or.inl ⟨by kernel_rfl, by intro w hSw; (try dsimp only at hSw); go_simp; try with_reducible rfl⟩) (by assumption) ?_
      simp only [Act.put, lyA, lyB, lyC]
      refine AnyL.take (i := 9) (oi := ⟨some 65, _, _, _, _, _⟩) (v := _) rfl (by kernel_rfl) (by kernel_rfl) (by kernel_rfl) (by kernel_rfl) (fun _ _ _ h => h) (Or.inl ⟨by kernel_rfl, by intro w hSw; (try dsimp only at hSw); go_simp; try with_reducible rfl⟩) (by assumption) ?_
      simp only [Act.put, lyA, lyB, lyC]
      refine AnyL.take (i := 10) (oi := ⟨some 66, _, _, _, _, _⟩) (v := _) rfl (by kernel_rfl) (by kernel_rfl) (by kernel_rfl) (by kernel_rfl) (fun _ _ _ h => h) (Or.inl ⟨by kernel_rfl, by intro w hSw; (try dsimp only at hSw); go_simp; try with_reducible rfl⟩) (by assumption) ?_
      simp only [Act.put, lyA, lyB, lyC]
      refine AnyL.take (i := 11) (oi := ⟨some 67, _, _, _, _, _⟩) (v := _) rfl (by kernel_rfl) (by kernel_rfl) (by kernel_rfl) (by kernel_rfl) (fun _ _ _ h => h) (Or.inl ⟨by kernel_rfl, by intro w hSw; (try dsimp only at hSw); go_simp; try with_reducible rfl⟩) (by assumption) ?_
      simp only [Act.put, lyA, lyB, lyC]
      refine AnyL.take (i := 12) (oi := ⟨some 68, _, _, _, _, _⟩) (v := _) rfl (by kernel_rfl) (by kernel_rfl) (by kernel_rfl) (by kernel_rfl) (fun _ _ _ h => h) (Or.inl ⟨by kernel_rfl, by intro w hSw; (try dsimp only at hSw); go_simp; try with_reducible rfl⟩) (by assumption) ?_
      simp only [Act.put, lyA, lyB, lyC]
      refine AnyL.take (i := 13) (oi := ⟨some 69, _, _, _, _, _⟩) (v := _) rfl (by kernel_rfl) (by kernel_rfl) (by kernel_rfl) (by kernel_rfl) (fun _ _ _ h => h) (Or.inl ⟨by kernel_rfl, by intro w hSw; (try dsimp only at hSw); go_simp; try with_reducible rfl⟩) (by assumption) ?_
      simp only [Act.put, lyA, lyB, lyC]
      refine AnyL.take (i := 14) (oi := ⟨some 70, _, _, _, _, _⟩) (v := _) rfl (by kernel_rfl) (by kernel_rfl) (by kernel_rfl) (by kernel_rfl) (fun _ _ _ h => h) (Or.inl ⟨by kernel_rfl, by intro w hSw; (try dsimp only at hSw); go_simp; try with_reducible rfl⟩) (by assumption) ?_
      simp only [Act.put, lyA, lyB, lyC]
      refine AnyL.last (o := ⟨none, _, _, _, _, _⟩) (by kernel_rfl) rfl (by kernel_rfl) (fun K hK => ?_)
      go_simp
      refine hK.out _ _ ?_
      clear hK K hHeld
      go_wp2
      go_roundw
      case rel =>
        rw [← HWY.out]
        exact ⟨j + 1, by omega, by go_num, by rw [HG.out], by rw [HG.out]; exact HL2.out.drew, by rw [HG.out]; exact HC2.out.drew, HK2.out.drew, HO2.out, HB2.out.drew, HZ2.out⟩
      case measure => simp [intOf]; omega
end Go.Proofs.YtkgepklapglmdaaGreatDoor
