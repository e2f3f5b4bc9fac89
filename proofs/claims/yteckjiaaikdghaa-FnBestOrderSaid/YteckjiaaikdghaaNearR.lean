/-
  Lemmas and contracts of single functions of this program, used by the proofs of its laws: what each call returns and what becomes of memory. Conditions: the hypotheses of each theorem.
-/
import Derived.Test.YteckjiaaikdghaaKniV
import Derived.Test.YteckjiaaikdghaaDrwK
namespace Go.Proofs.Yteckjiaaikdghaa
open Go.RowKit
attribute [local go_sem ↓] Go.wp_at_zero Go.wp_at_succ

/-- two places of an order changed -/
def swpO (R : List Int) (i k : Nat) : List Int := (R.set i (gi R k)).set k (gi R i)
theorem gi_ext {a b : List Int} (hl : a.length = b.length) (h : ∀ i, i < a.length → gi a i = gi b i) : a = b := by
  apply List.ext_getElem hl
  intro i h1 h2
  have := h i h1
  rwa [gi_eq h1, gi_eq h2] at this
theorem swp_len (R : List Int) (i k : Nat) : (swpO R i k).length = R.length := by unfold swpO; simp
theorem gi_swp {R : List Int} {i k : Nat} (hi : i < R.length) (hk : k < R.length) (j : Nat) : gi (swpO R i k) j = if j = k then gi R i else if j = i then gi R k else gi R j := by
  unfold swpO
  by_cases h1 : j = k
  · subst h1; rw [if_pos rfl, giK_set_eq (by simpa using hk)]
  · rw [if_neg h1, giK_set_ne (fun e => h1 e.symm)]
    by_cases h2 : j = i
    · subst h2; rw [if_pos rfl, giK_set_eq hi]
    · rw [if_neg h2, giK_set_ne (fun e => h2 e.symm)]
theorem nodup_gi {R : List Int} (h : R.Nodup) {i j : Nat} (hi : i < R.length) (hj : j < R.length) (hne : i ≠ j) : gi R i ≠ gi R j := by
  rw [gi_eq hi, gi_eq hj]
  have hp := List.pairwise_iff_getElem.1 (List.nodup_iff_pairwise_ne.1 h)
  rcases Nat.lt_or_gt_of_ne hne with h1 | h1
  · exact hp i j hi hj h1
  · exact (hp j i hj hi h1).symm
theorem nodup_of_gi {R : List Int} (h : ∀ i j, i < R.length → j < R.length → i ≠ j → gi R i ≠ gi R j) : R.Nodup := by
  rw [List.nodup_iff_pairwise_ne, List.pairwise_iff_getElem]
  intro i j hi hj hij e
  exact h i j hi hj (by omega) (by rw [gi_eq hi, gi_eq hj]; exact e)
theorem swp_begun {n : Nat} {R : List Int} {i k : Nat} (h : Begun n R) (hi : i < R.length) (hk : k < R.length) : Begun n (swpO R i k) := by
  refine ⟨nodup_of_gi fun a b ha hb hab => ?_, fun x hx => ?_⟩
  · rw [swp_len] at ha hb
    rw [gi_swp hi hk, gi_swp hi hk]
    have d := fun p q hp hq hpq => nodup_gi h.1 (i := p) (j := q) hp hq hpq
    by_cases a1 : a = k
    · subst a1
      rw [if_pos rfl, if_neg (by omega)]
      split
      · rename_i e; subst e; exact d _ _ hi hk (by omega)
      · exact d _ _ hi hb (by omega)
    · rw [if_neg a1]
      by_cases b1 : b = k
      · subst b1
        rw [if_pos rfl]
        split
        · rename_i e; subst e; exact d _ _ hk hi (by omega)
        · exact d _ _ ha hi (by omega)
      · rw [if_neg b1]
        by_cases a2 : a = i
        · subst a2
          rw [if_pos rfl, if_neg (by omega)]
          exact d _ _ hk hb (by omega)
        · rw [if_neg a2]
          split
          · exact d _ _ ha hk (by omega)
          · exact d _ _ ha hb hab
  · obtain ⟨j, hj, rfl⟩ := List.mem_iff_getElem.1 hx
    rw [← gi_eq hj, gi_swp hi hk]
    rw [swp_len] at hj
    have d : ∀ p, p < R.length → 0 ≤ gi R p ∧ gi R p < (n : Int) := fun p hp => h.2 _ (by rw [gi_eq hp]; exact List.getElem_mem hp)
    split
    · exact d _ hi
    · split
      · exact d _ hk
      · exact d _ hj
theorem boL_some {L : List (List Int)} (h : boL L ≠ []) : vSets 10 L = true ∧ L.length ≤ 5 ∧ 0 < L.length ∧ (boL L).length = L.length ∧ Begun L.length (boL L) ∧ ∀ o, Begun L.length o → o.length = L.length → cstL L (boL L) ≤ cstL L o := by
  unfold boL at h ⊢
  split at h
  · rename_i hc
    rw [if_pos hc]
    have hd := vSets_five.1 hc
    rcases Nat.eq_zero_or_pos L.length with h0 | h0
    · rw [h0] at h; exact absurd rfl h
    · obtain ⟨b1, b2, b3⟩ := best_least (cstL L) h0
      exact ⟨hd.1, hd.2, h0, b1, b2, b3⟩
  · exact absurd rfl h
def lenV : Value → Nat
  | .slice _ n _ => n
  | _ => 0
def NrPost (L : List (List Int)) (w : World) (e : Ending) (w' : World) : Prop := ∃ (v' : Value) (o : List Int), e = .returned v' ∧ Ints w' w.heap.size w'.heap.size v' o ∧ Begun L.length o ∧ o.length = L.length ∧ Below w.heap.size w w'
set_option maxRecDepth 100000 in
set_option maxHeartbeats 4000000 in
theorem NearestOrder_any (lo hi : Nat) (v : Value) (L : List (List Int)) (w : World) (h : IRows w lo hi v L) (hhi : hi ≤ w.heap.size) (hv : vSets 10 L = true) (hn : 0 < L.length) :
    Calls Try.prog 34 #[v] w fun e w' => NrPost L w e w' := by
  obtain ⟨A, c, rfl, hc, hm⟩ := h.form
  have hL10 := (vSets_iff.1 hv).1
  have HVS := Lib.hid (ivalidSets_any lo hi _ L 10 w h)
  rw [hv] at HVS
  have HH := Lib.hid h
  have HV := Lib.hid hv
  have hL0 : ((L.length : Int) == 0) = false := beq_f (by omega)
  have HO0 := Lib.hid (show OwnI (w.alloc (.cells #[.int .i64 0] 3)) w.heap.size 3 (.slice (some ⟨w.heap.size, 0, none⟩) 1 1) [0] from ⟨⟨by simp, .inr ⟨w.heap.size, 1, _, rfl, Nat.le_refl _, heap_alloc_new w _, Nat.le_refl _, by simp [maxLen], by simp, by simp⟩⟩, fun z hz => by rw [List.mem_singleton.1 hz]; exact ⟨by omega, by omega⟩⟩)
  have HB0 := Lib.hid (show Below w.heap.size w (w.alloc (.cells #[.int .i64 0] 3)) from (Below.refl _ _).alloc (Nat.le_refl _) _)
  clear h hv
  go_enter Try.func34, Try.ntmps34
  go_wp2_with fail
  refine HVS.out.mono ?_
  rintro e w9 ⟨rfl, hw9⟩
  subst hw9
  clear HVS
  go_wp2
  clear hL0
  go_loopw [3, 4, 5, 6, 7, 8, 9] (fun od _ _ _ _ _ _ wr => ∃ o : List Int, 1 ≤ o.length ∧ o.length ≤ L.length ∧ OwnI wr w.heap.size 3 od o ∧ Hid (Begun L.length o) ∧ Hid (Below w.heap.size w wr)) (fun od _ _ _ _ _ _ _ => L.length - lenV od)
  case atStart => exact ⟨[0], Nat.le_refl _, hn, HO0.out, ⟨by simp, fun x hx => by rw [List.mem_singleton.1 hx]; omega⟩, HB0.out⟩
  case round =>
    obtain ⟨o, ho1, hol, hown, HBG, HB⟩ := hrel
    clear HO0 HB0
    obtain ⟨wo, rfl⟩ : ∃ wo : World, wo = wr := ⟨_, rfl⟩
    have hzo := HB.out.size
    have hfo := hown.form
    obtain ⟨Ao, co, rfl, hco, _⟩ := hfo
    have HO := Lib.hid hown
    by_cases hlt : o.length < L.length
    rotate_left
    · have hni : ¬ (o.length : Int) < (L.length : Int) := by omega
      have HLe := Lib.hid (show o.length = L.length by omega)
      clear hown
      go_wp2
      go_ret
      exact ⟨_, o, rfl, HO.out.ints, HBG.out, HLe.out, HB.out⟩
    have hlt1 : (o.length : Int) < (L.length : Int) := by omega
    obtain ⟨q, Hq⟩ : ∃ q, Hid (o.length = q + 1) := ⟨o.length - 1, by show o.length = o.length - 1 + 1; omega⟩
    have hq9 := Hq.out
    obtain ⟨p, hp9, hpn⟩ := begun_at HBG.out (k := q) (by omega)
    obtain ⟨bo, oo, hBo, _, _, cq, _⟩ := hown.ints.cell (k := q) (by omega)
    subst hBo
    rw [hp9] at cq
    obtain ⟨bl, ol, Ap, cp, hAl, _, _, cp0, hcp, hcp2, hpi⟩ := (HH.out.below HB.out hhi).row hpn
    subst hAl
    have hvp := (vSets_iff.1 HV.out).2 p hpn
    obtain ⟨Ra, hRa⟩ : ∃ R, R = gr L p := ⟨_, rfl⟩
    rw [← hRa] at cp0 hcp hpi hvp
    have HPI := Lib.hid hpi
    have HVP := Lib.hid hvp
    have hq1 : (o.length : Int) - 1 = (q : Int) := by omega
    have q0 : (0 : Int) ≤ (q : Int) := by omega
    have q1 : (q : Int) < (o.length : Int) := by omega
    have p0 : (0 : Int) ≤ (p : Int) := by omega
    have p1 : (p : Int) < (L.length : Int) := by omega
    have HZ0 := Lib.hid (Below.refl wo.heap.size wo)
    clear hRa hp9 hpi hvp hown hq9
    go_wp2
    go_loopw [5, 6, 7, 8, 9, 35] (fun nr le _ _ _ i wr => ∃ (k : Nat) (x y : Int), k ≤ L.length ∧ i = .int .i64 k ∧ nr = .int .i64 x ∧ le = .int .i64 y ∧ Hid ((x = -1 ∧ ∀ j, j < k → inL o (j : Int) = true) ∨ (0 ≤ x ∧ x ∈ restO L.length o)) ∧ Hid (Below wo.heap.size wo wr)) (fun _ _ _ _ _ i _ => L.length - (intOf i).toNat)
    case atStart => exact ⟨0, -1, 0, Nat.zero_le _, rfl, rfl, rfl, .inl ⟨rfl, fun j hj => absurd hj (by omega)⟩, HZ0.out⟩
    case round =>
      obtain ⟨k, x, y, hk, rfl, rfl, rfl, HX, HBo⟩ := hrel
      clear HZ0
      have hzr := HBo.out.size
      by_cases hkl : k < L.length
      rotate_left
      · have hni : ¬ (k : Int) < (L.length : Int) := by omega
        have hx : 0 ≤ x ∧ x ∈ restO L.length o := by
          rcases HX.out with h | h
          · exfalso
            have h1 := restO_some (n := L.length) (pre := o) hlt
            obtain ⟨z, hz⟩ := List.exists_mem_of_ne_nil _ h1
            obtain ⟨⟨h3, h4⟩, h5⟩ := restO_mem.1 hz
            obtain ⟨j, rfl⟩ := Int.eq_ofNat_of_zero_le h3
            rw [h.2 j (by omega)] at h5
            cases h5
          · exact h
        have hxr := (restO_mem.1 hx.2).1
        have HNX := Lib.hid (HBG.out.next hx.2)
        have HO2 := Lib.hid (HO.out.kept (.of_below HBo.out (Nat.le_refl _)))
        have HBr := Lib.hid (HB.out.trans (HBo.out.mono hzo))
        have hzw : w.heap.size ≤ wr.heap.size := by omega
        clear hx
        go_wp2_with (at_builtin; refine wpList_appendI SlI _ rfl (.tmp 56) (.tmp 58) rfl x w.heap.size _ o rfl rfl HO2.out ⟨by omega, by omega⟩ (by omega) hzw ?_; intro v' w6 ho6 hg6; have HO6 := Lib.hid ho6; have HB6 := Lib.hid (HBr.out.trans hg6.below); have hf6 := ho6.form; obtain ⟨A6, c6, hv6, _, _⟩ := hf6; rw [List.length_append, List.length_singleton] at hv6; subst hv6; clear ho6 hg6)
        go_roundw
        case rel => exact ⟨o ++ [x], by rw [List.length_append, List.length_singleton]; omega, by rw [List.length_append, List.length_singleton]; omega, HO6.out, HNX.out, HB6.out⟩
        case measure => simp [lenV]; omega
      have hk0 : (0 : Int) ≤ (k : Int) := by omega
      have hk1 : (k : Int) < (L.length : Int) := by omega
      obtain ⟨Ar, cr, cr0, hcr, hcr2, hri⟩ := ((HH.out.below HB.out hhi).below HBo.out (by omega)).row' hkl
      have hvr := (vSets_iff.1 HV.out).2 k hkl
      obtain ⟨Rb, hRb⟩ : ∃ R, R = gr L k := ⟨_, rfl⟩
      rw [← hRb] at cr0 hcr hri hvr
      have HRI := Lib.hid hri
      have HVR := Lib.hid hvr
      clear hRb hri hvr
      go_wp2_with fail
      refine (contains_any w.heap.size _ _ o (k : Int) wr (HO.out.kept (.of_below HBo.out (Nat.le_refl _))).ints).mono ?_
      cases hin : inL o (k : Int)
      rotate_left
      · rintro e w8 ⟨rfl, hw8⟩
        subst hw8
        have HX2 := Lib.hid (show (x = -1 ∧ ∀ j, j < k + 1 → inL o (j : Int) = true) ∨ (0 ≤ x ∧ x ∈ restO L.length o) from HX.out.imp (fun h => ⟨h.1, fun j hj => by
          rcases Nat.lt_or_ge j k with h' | h'
          · exact h.2 j h'
          · obtain rfl : j = k := by omega
            exact hin⟩) id)
        clear hin
        go_wp2
        go_roundw
        case rel => exact ⟨k + 1, x, y, hkl, by go_num, rfl, rfl, HX2.out, HBo.out⟩
        case measure => simp [intOf]; omega
      · rintro e w8 ⟨rfl, hw8⟩
        subst hw8
        have HKR := Lib.hid (show (k : Int) ∈ restO L.length o from restO_mem.2 ⟨⟨hk0, hk1⟩, hin⟩)
        clear hin
        go_wp2_with fail
        refine (MoveKnives_le lo hi lo hi _ _ Ra Rb wr (HPI.out.below HBo.out (by omega)) (by omega) HRI.out (by omega) HVP.out HVR.out).mono ?_
        rintro e w7 ⟨rfl, b7⟩
        obtain ⟨z, hz⟩ : ∃ z, z = mvL Ra Rb := ⟨_, rfl⟩
        rw [← hz]
        have HB7 := Lib.hid (HBo.out.trans (b7.mono hzr))
        clear hz b7
        by_cases hx0 : x < 0
        · go_wp2
          go_roundw
          case rel => exact ⟨k + 1, k, z, hkl, by go_num, rfl, rfl, .inr ⟨hk0, HKR.out⟩, HB7.out⟩
          case measure => simp [intOf]; omega
        have HX2 := Lib.hid (HX.out.resolve_left fun h => hx0 (by rw [h.1]; omega))
        by_cases hzy : z < y
        · go_wp2
          go_roundw
          case rel => exact ⟨k + 1, k, z, hkl, by go_num, rfl, rfl, .inr ⟨hk0, HKR.out⟩, HB7.out⟩
          case measure => simp [intOf]; omega
        · have hd : decide (z < y) = false := decide_eq_false hzy
          have hd2 : decide (x < 0) = false := decide_eq_false hx0
          go_wp2
          go_roundw
          case rel => exact ⟨k + 1, x, y, hkl, by go_num, rfl, rfl, .inr HX2.out, HB7.out⟩
          case measure => simp [intOf]; omega
end Go.Proofs.Yteckjiaaikdghaa
