/-
  Lemmas and contracts of single functions of this program, used by the proofs of its laws: what each call returns and what becomes of memory. Conditions: the hypotheses of each theorem.
-/
import Derived.Test.YtpimbibmlmjjpaaCtS
import Derived.Test.YtpimbibmlmjjpaaBits
import Derived.Deep.RegionHeld3
import Derived.Deep.RegionWith
namespace Go.Proofs.Ytpimbibmlmjjpaa
open Go.RowKit

/-- the bits of what lies above the i-th label -/
def ab (p : List (List Int)) (i : Nat) : Nat := bitsOf (labelsL p) (abvL p (gi (labelsL p) i))
def abT (p : List (List Int)) (n k : Nat) : List Int := (List.range n).map fun i => if i < k then ((ab p i : Nat) : Int) else 0
def ctT (p : List (List Int)) (M t : Nat) : List Int := (List.range M).map fun j => if j < t then CT p j else 0
theorem map_range_len (M : Nat) (f : Nat → Int) : ((List.range M).map f).length = M := by simp
theorem gi_range {M j : Nat} {f : Nat → Int} (h : j < M) : gi ((List.range M).map f) j = f j := by
  unfold gi
  simp [h]
theorem range_set {M k : Nat} {f g : Nat → Int} {x : Int} (h : ∀ j, j < M → g j = if j = k then x else f j) : ((List.range M).map f).set k x = (List.range M).map g := by
  apply List.ext_getElem (by simp)
  intro j h1 h2
  simp only [List.length_map, List.length_range] at h2
  rw [List.getElem_set]
  simp only [List.getElem_map, List.getElem_range]
  rw [h j h2]
  by_cases e : k = j
  · rw [if_pos e, if_pos e.symm]
  · rw [if_neg e, if_neg (fun h => e h.symm)]
theorem bitsOf_take {L X : List Int} {j : Nat} (h : j < X.length) : bitsOf L (X.take (j + 1)) = bitsOf L (X.take j) ||| (1 <<< (plc L (gi X j)).toNat) := by
  rw [take_gi h, bitsOf, List.foldl_append]; rfl
theorem bitsOf_lt {L X : List Int} (hX : ∀ x ∈ X, x ∈ L) : bitsOf L X < 2 ^ L.length := by
  refine Nat.lt_pow_two_of_testBit _ fun i hi => ?_
  cases hb : (bitsOf L X).testBit i
  · rfl
  · obtain ⟨x, hx, e⟩ := bitsOf_iff.1 hb
    obtain ⟨j, h1, h2⟩ := plc_lt (hX x hx)
    omega
theorem abv_sub {p : List (List Int)} {l : Int} : ∀ x ∈ abvL p l, x ∈ labelsL p := by
  intro x hx
  unfold abvL at hx
  split at hx
  · exact above_labels hx
  · cases hx
theorem wrap_i64' (z : Int) : I64 (IntKind.i64.wrap z) := by rw [IntKind.wrap_i64]; unfold I64; omega
theorem Only.of_qt' (lo hi : Nat) (w : World) : Only lo hi w w.drew := ⟨rfl, rfl, rfl, rfl, fun _ _ => rfl⟩
theorem wrap64_i64 (x : Int) : I64 (wrap64 x) := by unfold wrap64 I64; omega
theorem foldl_range {β : Type} (f : β → Nat → β) (b : β) (k : Nat) : (List.range (k + 1)).foldl f b = f ((List.range k).foldl f b) k := by
  rw [List.range_succ, List.foldl_append]; rfl

def ctI (p : List (List Int)) : Int := if vPile p = true then (if (labelsL p).length ≤ 8 then CT p (2 ^ (labelsL p).length - 1) else -1) else -1
set_option maxRecDepth 100000 in
set_option maxHeartbeats 4000000 in
theorem CountTakes_any (lo hi : Nat) (v : Value) (p : List (List Int)) (w : World) (h : IRows w lo hi v p) (hhi : hi ≤ w.heap.size) (ht : tot p ≤ 1048576) :
    Calls Try.prog 24 #[v] w fun e w' => e = .returned (.int .i64 (ctI p)) ∧ Below w.heap.size w w' := by
  obtain ⟨A, c, rfl, hcA, hmA⟩ := h.form
  cases hv : vPile p
  · have Hr := Lib.hid (show ctI p = -1 by rw [ctI, if_neg (by simp [hv])])
    go_enter Try.func24, Try.ntmps24
    go_wp2_with (go_at_call 35; refine (ValidPile_any _ _ _ _ _ h hhi ht).mono ?_; rw [hv]; rintro e w1 ⟨rfl, hb1⟩)
    go_ret
    exact ⟨ret_int Hr.out.symm, hb1⟩
  · have HV := Lib.hid (vPile_true hv)
    have hlab : labV p = labelsL p := by rw [labV, if_pos hv]
    by_cases hl : (labelsL p).length ≤ 8
    · have Hr := Lib.hid (show ctI p = CT p (2 ^ (labelsL p).length - 1) by rw [ctI, if_pos hv, if_pos hl])
      obtain ⟨L, hL⟩ : ∃ L, L = labelsL p := ⟨_, rfl⟩
      obtain ⟨n, hn⟩ : ∃ n, n = L.length := ⟨_, rfl⟩
      obtain ⟨M, hM⟩ : ∃ M, M = 1 <<< n := ⟨_, rfl⟩
      have hM2 : M = 2 ^ n := by rw [hM, Nat.one_shiftLeft]
      rw [← hL] at hl hlab
      rw [← hn] at hl
      have hM256 : M ≤ 256 := by rw [hM2]; exact Nat.pow_le_pow_right (n := 2) (by omega) hl
      have hM1 : 1 ≤ M := by rw [hM2]; exact Nat.one_le_two_pow
      have HL := Lib.hid hL
      have HM := Lib.hid hM2
      have hshM : IntKind.i64.wrap ((2 : Int) ^ n) = (M : Int) := by rw [hM]; exact shl_val (by omega)
      have Hn := Lib.hid hn
      have hnL : L.length ≤ n := by omega
      have hnL2 : n ≤ L.length := by omega
      clear hL hM hM2 hn
      go_enter Try.func24, Try.ntmps24
      go_wp2_with (first | (go_at_call 35; refine (ValidPile_any _ _ _ _ _ h hhi ht).mono ?_; rw [hv]; rintro e w1 ⟨rfl, hb1⟩; have hbs1 := hb1.size) | (go_at_call 34; refine (LabelsOf_any _ _ _ _ _ (h.below hb1 hhi) (by omega) ht).mono ?_; rw [hlab]; rintro e w2 ⟨v2, rfl, ho2, hb2⟩; obtain ⟨A2, c2, rfl, hc2, hm2⟩ := ho2.form; rw [← Hn.out]; have hbs2 := hb2.size; have hb02 := hb1.trans (hb2.mono hbs1)) | (at_make; refine wpList_makeI SlI _ rfl (.tmp 21) (.tmp 21) rfl w2.heap.size n rfl rfl (by omega) (Nat.le_refl _) ?_; intro w3 ho3 hb3 hs3))
      clear hv
      have ho2' := ho2.ints
      rw [← Hn.out] at hc2 ho2'
      have hiL := ho2'.below hb3 (Nat.le_refl _)
      obtain ⟨gA, hgA⟩ : ∃ g, g = w2.heap.size := ⟨_, rfl⟩
      rw [← hgA] at hb3 hs3 ho3 hiL ⊢
      have hb03 := hb02.trans (hb3.mono (by omega))
      have HgA := Lib.hid hgA
      have hgA1 : w.heap.size ≤ gA := by omega
      clear hgA
      go_loopw [25, 5, 6, 8] (fun i _ _ _ wr => ∃ k : Nat, k ≤ n ∧ i = .int .i64 k ∧ OwnI wr gA 3 (.slice (some ⟨gA, 0, none⟩) n n) (abT p n k) ∧ Below gA w3 wr) (fun i _ _ _ _ => n - (intOf i).toNat)
      case atStart =>
        refine ⟨0, by omega, rfl, ?_, Below.refl _ _⟩
        have e : List.replicate n (0 : Int) = abT p n 0 := by
          unfold abT
          apply List.ext_getElem (by simp)
          intro j h1 h2
          simp
        rw [← e]; exact ho3
      case round =>
        obtain ⟨k, hk, rfl, hown, hb⟩ := hrel
        have hbs := hb.size
        have hb0 := hb03.trans (hb.mono (by omega))
        have hLr := hiL.below hb (by omega)
        by_cases hlt : k < n
        · obtain ⟨bL, oL, rfl, hbL, hbL2, hcell, h64⟩ := hLr.cell (k := k) (by omega)
          obtain ⟨X, hX⟩ : ∃ X, X = abvL p (gi L k) := ⟨_, rfl⟩
          have hXl := abvL_len p (gi L k)
          rw [← hX] at hXl
          have HX := Lib.hid hX
          have Hsub := Lib.hid (show ∀ x ∈ X, x ∈ L from by rw [hX, HL.out]; exact abv_sub)
          clear hX
          go_wp2_with (go_at_call 15; refine (AboveOf_any _ _ _ _ _ _ (h.below hb0 hhi) (by omega) ht).mono ?_; rw [← HX.out]; rintro e w4 ⟨v4, rfl, ho4, hb4⟩; obtain ⟨A4, c4, rfl, hc4, hm4⟩ := ho4.form; have hbs4 := hb4.size)
          have hX4 := ho4.ints
          have hown4 := hown.kept (.of_below hb4 (Nat.le_refl _))
          have hL4 := hLr.below hb4 (by omega)
          have hg4 : gA < wr.heap.size := (hown.lt gA rfl).2
          clear hown hcell
          obtain ⟨wo, rfl⟩ : ∃ wo : World, wo = wr := ⟨_, rfl⟩
          go_loopw [34, 8] (fun i _ wr => ∃ j : Nat, j ≤ X.length ∧ i = .int .i64 j ∧ OwnI wr gA 3 (.slice (some ⟨gA, 0, none⟩) n n) ((abT p n k).set k ((bitsOf L (X.take j) : Nat) : Int)) ∧ Only gA (gA + 1) w4 wr) (fun i _ _ => X.length - (intOf i).toNat)
          case atStart =>
            refine ⟨0, by omega, rfl, ?_, Only.refl _ _ _⟩
            have e : (abT p n k).set k ((bitsOf L (X.take 0) : Nat) : Int) = abT p n k := by
              unfold abT
              refine range_set fun j hj => ?_
              by_cases hjk : j = k
              · subst hjk; simp [bitsOf]
              · rw [if_neg hjk]
            rw [e]; exact hown4
          case round =>
            obtain ⟨j, hj, rfl, ho, hon⟩ := hrel
            clear hown4
            by_cases hjt : j < X.length
            · obtain ⟨bX, oX, rfl, hbX, hbX2, hcellX, h64X⟩ := (hX4.kept (hon.kept (.inr (by omega)))).cell hjt
              obtain ⟨q, hq, hqn⟩ := plc_lt (Hsub.out _ (gi_mem hjt))
              have hbl := bitsOf_lt (L := L) (X := X.take j) (fun x hx => Hsub.out x (List.mem_of_mem_take hx))
              have Hstep := Lib.hid (bitsOf_take (L := L) hjt)
              obtain ⟨g, hg, _, _, hca, hfa, hst⟩ := ho.at_ (i := k) (by simp [abT]; omega)
              simp only [Option.some.injEq, Addr.mk.injEq, and_true] at hg
              subst hg
              obtain ⟨a, ha⟩ : ∃ a, a = bitsOf L (X.take j) := ⟨_, rfl⟩
              have hga : gi ((abT p n k).set k ((bitsOf L (X.take j) : Nat) : Int)) k = (a : Int) := by rw [gi_set, if_pos ⟨rfl, by simp [abT]; omega⟩, ha]
              rw [hga] at hca
              have hL4' := hL4.kept (hon.kept (.inl (Nat.le_refl _)))
              have hbl2 : a < 4611686018427387904 := by
                have h1 : 2 ^ L.length ≤ 2 ^ 8 := Nat.pow_le_pow_right (by omega) (by omega)
                omega
              obtain ⟨Bq, hBq⟩ : ∃ b, b = 1 <<< q := ⟨_, rfl⟩
              have hB : Bq ≤ 256 := by
                rw [hBq, Nat.one_shiftLeft]
                exact Nat.pow_le_pow_right (n := 2) (by omega) (show q ≤ 8 by omega)
              obtain ⟨a2, ha2⟩ : ∃ b, b = a ||| Bq := ⟨_, rfl⟩
              have Hval := Lib.hid (show bits .or .i64 (a : Int) (IntKind.i64.wrap (2 ^ q)) = (a2 : Int) by rw [shl_val (by omega), ← hBq, or_val hbl2 (by omega), ha2])
              have ha2l : a2 < 2 ^ 62 := by rw [ha2]; exact Nat.or_lt_two_pow (by omega) (by omega)
              have Hst := Lib.hid (hst (a2 : Int) ⟨by omega, by omega⟩)
              have Ha2 := Lib.hid (show a2 = bitsOf L (X.take (j + 1)) by rw [Hstep.out, ← ha, ha2, hBq, hq]; rfl)
              have Hq := Lib.hid hq
              clear hst ha ha2 hBq hbl hq hga
              have hk0 : (0 : Int) ≤ (k : Int) := by omega
              have hk1 : (k : Int) < (n : Int) := by omega
              go_wp2_with fail
              go_region_with ((go_at_call 50; refine (index_any _ _ _ _ _ wr.drew hL4').mono ?_; rw [Hq.out]; rintro e w' ⟨rfl, rfl⟩))
              all_goals
                rw [Hval.out]
                go_wp2
                go_roundw
                case rel =>
                  have hs2 := Hst.out
                  rw [Ha2.out, List.set_set] at hs2
                  exact ⟨j + 1, by omega, by go_num, by rw [Ha2.out]; exact hs2, (hon.setCell (p := ⟨gA, k, none⟩) (Nat.le_refl gA) (Nat.lt_succ_self gA) _).trans (Only.of_qt' _ _ _)⟩
                case measure => simp [intOf]; omega
            · have He := Lib.hid (show j = X.length by omega)
              go_wp2
              go_roundw
              case rel =>
                refine ⟨k + 1, by omega, by go_num, ?_, ?_⟩
                · have e : (abT p n k).set k ((bitsOf L (X.take j) : Nat) : Int) = abT p n (k + 1) := by
                    rw [He.out, List.take_length]
                    unfold abT
                    refine range_set fun i hi => ?_
                    by_cases hik : i = k
                    · subst hik; rw [if_pos (by omega), if_pos rfl, ab, ← HL.out, HX.out]
                    · rw [if_neg hik]
                      by_cases h2 : i < k
                      · rw [if_pos h2, if_pos (by omega)]
                      · rw [if_neg h2, if_neg (by omega)]
                  rw [← e]; exact ho
                · exact hb.trans ((hb4.mono (by omega)).trans hon.below)
              case measure => simp [intOf]; omega
        · have He := Lib.hid (show k = n by omega)
          rw [He.out] at hown
          have hge : n ≤ k := by omega
          clear hlt
          have hA := hown.ints
          have hgA2 := (hown.lt gA rfl).2
          clear hown
          obtain ⟨gT, hgT⟩ : ∃ g, Hid (g = wr.heap.size) := ⟨_, rfl⟩
          go_wp2_with (at_make; refine wpList_makeI SlI _ rfl (.tmp 52) (.tmp 52) rfl wr.heap.size M rfl rfl (by omega) (Nat.le_refl _) ?_; intro w5 ho5 hb5 hs5; obtain ⟨g5, hg5, -, -, hc50, hf50, hst50⟩ := ho5.at_ (i := 0) (by rw [List.length_replicate]; omega); injection hg5 with hg5; injection hg5 with hg5; subst hg5)
          have hgT := hgT.out
          rw [← hgT] at ho5 hb5 hs5 hst50 hA ⊢
          have Hst5 := hst50 1 ⟨by omega, by omega⟩
          clear hst50 hc50 hf50
          have hbw5 : Below w.heap.size w w5 := hb0.trans (hb5.mono (by omega))
          have hon6 : Only gT (gT + 1) w5 (w5.setCell ⟨gT, 0, none⟩ (.int .i64 1)) := (Only.refl _ _ _).setCell (p := ⟨gT, 0, none⟩) (Nat.le_refl gT) (Nat.lt_succ_self gT) _
          have hA5 := hA.below hb5 (Nat.le_refl _)
          have hL5 := hLr.below hb5 (by omega)
          have hT1 : OwnI (w5.setCell ⟨gT, 0, none⟩ (.int .i64 1)) gT 3 (.slice (some ⟨gT, 0, none⟩) M M) (ctT p M 1) := by
            have e : (List.replicate M (0 : Int)).set 0 1 = ctT p M 1 := by
              have e0 : List.replicate M (0 : Int) = (List.range M).map fun _ => (0 : Int) := by
                apply List.ext_getElem (by simp)
                intro j h1 h2
                simp
              rw [e0]
              unfold ctT
              refine range_set fun j hj => ?_
              by_cases h0 : j = 0
              · subst h0; rw [if_pos (by omega), if_pos rfl, CT_zero p (labels_nodup HV.out)]
              · rw [if_neg (by omega), if_neg h0]
            rw [← e]; exact Hst5
          have hw6 : w.heap.size ≤ gT := by omega
          obtain ⟨w6, hw6e⟩ : ∃ w6, w6 = w5.setCell ⟨gT, 0, none⟩ (.int .i64 1) := ⟨_, rfl⟩
          rw [← hw6e] at hT1 hon6 ⊢
          clear hw6e Hst5 ho5 hLr hb hb0 hA
          have HgT := Lib.hid hgT
          clear hgT
          go_loopw [10, 64, 11] (fun t _ _ wr => ∃ t' : Nat, 1 ≤ t' ∧ t' ≤ M ∧ t = .int .i64 t' ∧ OwnI wr gT 3 (.slice (some ⟨gT, 0, none⟩) M M) (ctT p M t') ∧ Only gT (gT + 1) w5 wr) (fun t _ _ _ => M - (intOf t).toNat)
          case atStart => exact ⟨1, by omega, by omega, rfl, hT1, hon6⟩
          case round =>
            obtain ⟨t, ht1, htM, rfl, hown, hon⟩ := hrel
            clear hT1 hon6
            by_cases hlt : t < M
            · have Hct := Lib.hid (CT_step HV.out (m := t) (by omega) (by rw [← HL.out, ← Hn.out, ← HM.out]; exact hlt))
              go_wp2
              obtain ⟨wo, rfl⟩ : ∃ wo : World, wo = wr := ⟨_, rfl⟩
              go_loopw [64, 11] (fun i _ wr => ∃ (i' : Nat) (N : Int), i' ≤ n ∧ i = .int .i64 i' ∧ OwnI wr gT 3 (.slice (some ⟨gT, 0, none⟩) M M) ((ctT p M t).set t N) ∧ Only gT (gT + 1) w5 wr ∧ Hid (N = (List.range i').foldl (stepT p t) 0)) (fun i _ _ => n - (intOf i).toNat)
              case atStart =>
                refine ⟨0, 0, by omega, rfl, ?_, hon, rfl⟩
                have e : (ctT p M t).set t 0 = ctT p M t := by
                  unfold ctT
                  refine range_set fun j hj => ?_
                  by_cases hjk : j = t
                  · subst hjk; simp
                  · rw [if_neg hjk]
                rw [e]; exact hown
              case round =>
                obtain ⟨i, N, hi, rfl, ho, hon', HN⟩ := hrel
                clear hown hon
                by_cases hit : i < n
                · have Hfold := Lib.hid (foldl_range (stepT p t) 0 i)
                  have hAr := hA5.kept (hon'.kept (.inl (Nat.le_refl _)))
                  have hcA := hAr.cell' (k := i) (by simp [abT]; omega)
                  have hab : gi (abT p n n) i = ((ab p i : Nat) : Int) := by
                    unfold abT; rw [gi_range hit, if_pos hit]
                  rw [hab, Nat.zero_add] at hcA
                  clear hab
                  have habl : ab p i < 4611686018427387904 := by
                    have h1 := bitsOf_lt (L := labelsL p) (X := abvL p (gi (labelsL p) i)) abv_sub
                    rw [← HL.out, ← Hn.out, ← HM.out] at h1
                    unfold ab; rw [← HL.out]; omega
                  have Hstep := Lib.hid (show stepT p t N i = if t.testBit i = true ∧ t &&& ab p i = 0 then wrap64 (N + CT p (t ^^^ (1 <<< i))) else N from rfl)
                  obtain ⟨abi, habi⟩ : ∃ a, a = ab p i := ⟨_, rfl⟩
                  rw [← habi] at hcA habl Hstep
                  clear habi
                  have hB : 1 <<< i ≤ 256 := by
                    rw [Nat.one_shiftLeft]
                    exact Nat.pow_le_pow_right (n := 2) (by omega) (show i ≤ 8 by omega)
                  have hs1 : IntKind.i64.wrap ((2 : Int) ^ i) = ((1 <<< i : Nat) : Int) := shl_val (by omega)
                  obtain ⟨z1, hz1⟩ : ∃ z, z = t &&& (1 <<< i) := ⟨_, rfl⟩
                  obtain ⟨z2, hz2⟩ : ∃ z, z = t &&& abi := ⟨_, rfl⟩
                  have hv1 : bits .and .i64 (t : Int) (IntKind.i64.wrap ((2 : Int) ^ i)) = (z1 : Int) := by rw [hs1, and_val (by omega) (by omega), hz1]
                  have hv1' : bits .and .i64 (t : Int) (wrap64 ((2 : Int) ^ i)) = (z1 : Int) := by rw [← wrap_wrap64]; exact hv1
                  have hv2 : bits .and .i64 (t : Int) (abi : Int) = (z2 : Int) := by rw [and_val (by omega) habl, hz2]
                  rw [← hz2] at Hstep
                  by_cases hbt : t.testBit i = true
                  · have hp1 := and_bit_pos hbt
                    rw [← hz1] at hp1
                    have hn1 : ((z1 : Int) != 0) = true := bne_t (by omega)
                    by_cases hz : z2 = 0
                    · have hn2 : ((z2 : Int) == 0) = true := beq_t (by omega)
                      have hqlt := xor_bit_lt hbt
                      obtain ⟨q, hq⟩ : ∃ q, q = t ^^^ (1 <<< i) := ⟨_, rfl⟩
                      have hv3 : bits .andNot .i64 (t : Int) (IntKind.i64.wrap ((2 : Int) ^ i)) = (q : Int) := by rw [hs1, andNot_val (by omega) hbt, hq]
                      have hv3' : bits .andNot .i64 (t : Int) (wrap64 ((2 : Int) ^ i)) = (q : Int) := by rw [← wrap_wrap64]; exact hv3
                      rw [← hq] at hqlt
                      have Hstep2 := Lib.hid (show stepT p t N i = wrap64 (N + CT p q) by rw [Hstep.out, if_pos ⟨hbt, hz⟩, hq])
                      obtain ⟨_, hgg, _, _, hct, hft, hstt⟩ := ho.at_ (i := t) (by simp [ctT]; omega)
                      obtain ⟨_, hgg', _, _, hcq, _, _⟩ := ho.at_ (i := q) (by simp [ctT]; omega)
                      simp only [Option.some.injEq, Addr.mk.injEq, and_true] at hgg hgg'
                      subst hgg
                      subst hgg'
                      rw [gi_set, if_pos ⟨rfl, by simp [ctT]; omega⟩] at hct
                      rw [gi_set, if_neg (by omega)] at hcq
                      have hgq : gi (ctT p M t) q = CT p q := by unfold ctT; rw [gi_range (by omega), if_pos hqlt]
                      rw [hgq] at hcq
                      have Hsum := Lib.hid (show stepT p t N i = IntKind.i64.wrap (N + CT p q) by rw [Hstep2.out, wrap_wrap64])
                      obtain ⟨y, hy⟩ : ∃ y, y = CT p q := ⟨_, rfl⟩
                      rw [← hy] at hcq Hsum
                      have Hst := Lib.hid (hstt _ (wrap_i64' (N + y)))
                      clear hstt hgq Hstep2 hy hq hz1 hz2 hs1 hp1 hz Hstep hbt
                      have hq0 : (0 : Int) ≤ (q : Int) := by omega
                      have hq1 : (q : Int) < (M : Int) := by omega
                      have ht0 : (0 : Int) ≤ (t : Int) := by omega
                      have ht2 : (t : Int) < (M : Int) := by omega
                      go_wp2_with fail
                      go_region
                      have hst2 := Hst.out
                      rw [wrap_wrap64, List.set_set] at hst2
                      go_wp2_with fail
                      go_roundw
                      case rel => exact ⟨i + 1, wrap64 (N + y), by omega, by go_num, hst2, (hon'.setCell (p := ⟨gT, t, none⟩) (Nat.le_refl gT) (Nat.lt_succ_self gT) _).trans (Only.of_qt' _ _ _), by rw [Hfold.out, ← HN.out, Hsum.out, wrap_wrap64]; rfl⟩
                      case measure => simp [intOf]; omega
                    · have hn2 : ((z2 : Int) == 0) = false := beq_f (by omega)
                      have Hstep2 := Lib.hid (show stepT p t N i = N by rw [Hstep.out, if_neg (fun h => hz h.2)])
                      clear hz1 hz2 hs1 hp1 hz Hstep hbt
                      go_wp2_with fail
                      go_roundw
                      case rel => exact ⟨i + 1, N, by omega, by go_num, ho, hon', by rw [Hfold.out, ← HN.out, Hstep2.out]; rfl⟩
                      case measure => simp [intOf]; omega
                  · have hp1 := and_bit_zero (by simpa using hbt)
                    rw [← hz1] at hp1
                    have hn1 : ((z1 : Int) != 0) = false := bne_f (by omega)
                    have Hstep2 := Lib.hid (show stepT p t N i = N by rw [Hstep.out, if_neg (fun h => hbt h.1)])
                    clear hz1 hz2 hs1 hp1 Hstep hbt
                    go_wp2_with fail
                    go_roundw
                    case rel => exact ⟨i + 1, N, by omega, by go_num, ho, hon', by rw [Hfold.out, ← HN.out, Hstep2.out]; rfl⟩
                    case measure => simp [intOf]; omega
                · have Hi := Lib.hid (show i = n by omega)
                  go_wp2
                  go_roundw
                  case rel =>
                    refine ⟨t + 1, by omega, by omega, by go_num, ?_, hon'⟩
                    have e : (ctT p M t).set t N = ctT p M (t + 1) := by
                      unfold ctT
                      refine range_set fun j hj => ?_
                      by_cases hjk : j = t
                      · subst hjk; rw [if_pos (by omega), if_pos rfl, HN.out, Hi.out, Hct.out, ← HL.out, ← Hn.out]
                      · rw [if_neg hjk]
                        by_cases h2 : j < t
                        · rw [if_pos h2, if_pos (by omega)]
                        · rw [if_neg h2, if_neg (by omega)]
                    rw [← e]; exact ho
                  case measure => simp [intOf]; omega
            · have He2 := Lib.hid (show t = M by omega)
              have hcM := hown.ints.cell' (k := M - 1) (by simp [ctT]; omega)
              have hgM : gi (ctT p M t) (M - 1) = CT p (M - 1) := by unfold ctT; rw [gi_range (by omega), if_pos (by omega)]
              rw [hgM, Nat.zero_add] at hcM
              clear hgM
              have Hr2 := Lib.hid (show ctI p = CT p (M - 1) by rw [Hr.out, ← HL.out, ← Hn.out, ← HM.out])
              go_wp2
              go_ret
              exact ⟨ret_int Hr2.out.symm, hbw5.trans (hon.below.mono hw6)⟩
    · have Hr := Lib.hid (show ctI p = -1 by rw [ctI, if_pos hv, if_neg hl])
      go_enter Try.func24, Try.ntmps24
      go_wp2_with (first | (go_at_call 35; refine (ValidPile_any _ _ _ _ _ h hhi ht).mono ?_; rw [hv]; rintro e w1 ⟨rfl, hb1⟩; have hbs1 := hb1.size) | (go_at_call 34; refine (LabelsOf_any _ _ _ _ _ (h.below hb1 hhi) (by omega) ht).mono ?_; rw [hlab]; rintro e w2 ⟨v2, rfl, ho2, hb2⟩; obtain ⟨A2, c2, rfl, hc2, hm2⟩ := ho2.form; have hbs2 := hb2.size; have hb02 := hb1.trans (hb2.mono hbs1)))
      go_ret
      exact ⟨ret_int Hr.out.symm, hb02⟩
end Go.Proofs.Ytpimbibmlmjjpaa
