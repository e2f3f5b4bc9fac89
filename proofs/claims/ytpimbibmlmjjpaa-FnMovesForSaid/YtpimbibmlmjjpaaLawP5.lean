/-
  Lemmas and contracts of single functions of this program, used by the proofs of its laws: what each call returns and what becomes of memory. Conditions: the hypotheses of each theorem.
-/
import Derived.Test.YtpimbibmlmjjpaaPileW
import Derived.Test.YtpimbibmlmjjpaaLawP1
import Derived.Test.YtpimbibmlmjjpaaPilePlain6
import Derived.Test.YtpimbibmlmjjpaaDrawP3
namespace Go.Proofs.Ytpimbibmlmjjpaa
open Go.RowKit

/-- what is asked of a list of labels -/
def OkL (p : List (List Int)) (L : List Int) : Prop := (∀ l ∈ L, l ∈ labelsL p) ∧ L.Nodup
def unionL (p : List (List Int)) (L : List Int) : List Int := (labelsL p).filter fun x => inL (L.flatMap (coneOf p)) x
theorem bad_ok {p : List (List Int)} {L : List Int} (h : anyB (badS p L) L.length = false) : OkL p L := by
  have hb : ∀ j, j < L.length → badS p L j = false := by
    intro j hj
    cases hb : badS p L j
    · rfl
    · rw [anyB_true hj hb] at h; cases h
  refine ⟨fun l hl => ?_, ?_⟩
  · obtain ⟨j, hj, rfl⟩ := mem_gi hl
    have h1 := hb j hj
    unfold badS at h1
    simp only [Bool.or_eq_false_iff, decide_eq_false_iff_not] at h1
    have h2 := plc_mem (labelsL p) (gi L j)
    rw [decide_eq_true (by omega), inL_iff] at h2
    exact h2
  · refine List.pairwise_iff_getElem.2 fun i j hi hj hij e => ?_
    have h1 := hb j hj
    unfold badS at h1
    simp only [Bool.or_eq_false_iff, decide_eq_false_iff_not] at h1
    have h2 := plc_mem (L.take j) (gi L j)
    rw [decide_eq_false h1.2, inL_false] at h2
    apply h2
    have e2 : gi (L.take j) i = gi L j := by rw [gi_take hij, gi_eq hi, gi_eq hj]; exact e
    rw [← e2]
    exact gi_mem (by rw [List.length_take]; omega)
theorem ok_bad {p : List (List Int)} {L : List Int} (h : OkL p L) : anyB (badS p L) L.length = false := by
  refine anyB_false fun j hj => ?_
  have hm := h.1 _ (gi_mem hj)
  obtain ⟨r, i, hr, hi, he, hp⟩ := mem_labels.1 hm
  have h1 := plc_mem (labelsL p) (gi L j)
  rw [inL_iff.2 hm] at h1
  have h2 := plc_mem (L.take j) (gi L j)
  have h3 : inL (L.take j) (gi L j) = false := inL_false.2 fun hin => by
    obtain ⟨i', k1, k2, k3⟩ := mem_take_gi hin
    have := gi_inj h.2 k2 hj k3
    omega
  rw [h3] at h2
  have h4 := of_decide_eq_true h1.symm
  have h5 := of_decide_eq_false h2.symm
  unfold badS
  rw [decide_eq_false (by omega), decide_eq_false (by omega), decide_eq_false h5]; rfl
theorem mov_val {p : List (List Int)} (hv : ValidP p) {L : List Int} (h : OkL p L) : movS p L = ((unionL p L).length : Int) := by
  unfold movS
  rw [if_pos (vPile_of hv), ok_bad h, if_neg (by simp)]
  have hrest : restL p L = less p (L.flatMap (coneOf p)) := by
    have := rest_less (uniq_of_valid hv) L [] (fun _ _ _ _ h => absurd h (by simp)) fun l hl => mem_labels.1 (h.1 l hl)
    rw [less_nil, List.nil_append] at this
    exact this
  have hsplit : ∀ xs : List Int, (xs.filter fun x => inL (L.flatMap (coneOf p)) x).length + (xs.filter fun x => !inL (L.flatMap (coneOf p)) x).length = xs.length := by
    intro xs
    induction xs with
    | nil => rfl
    | cons x t ih =>
      rw [List.filter_cons, List.filter_cons]
      cases inL (L.flatMap (coneOf p)) x <;> simp <;> omega
  have := hsplit (labelsL p)
  rw [hrest, labels_less]
  unfold unionL
  omega
theorem mov_pos {p : List (List Int)} {L : List Int} (h : ¬ movS p L < 0) : ValidP p ∧ OkL p L := by
  unfold movS at h
  by_cases hv : vPile p = true
  · rw [if_pos hv] at h
    cases hb : anyB (badS p L) L.length
    · exact ⟨vPile_true hv, bad_ok hb⟩
    · rw [hb, if_pos rfl] at h; omega
  · rw [if_neg hv] at h; omega
theorem coneOf_eq {p : List (List Int)} (hv : ValidP p) {l : Int} (hl : l ∈ labelsL p) : (coneOf p l).Nodup ∧ (coneOf p l).length = (abvL p l).length + 1 ∧ l ∈ coneOf p l := by
  obtain ⟨r, i, hr, hi, rfl, hp⟩ := mem_labels.1 hl
  obtain ⟨e1, e2⟩ := valid_fnd hv hr hi hp
  have e : coneOf p (cell p r i) = coneL p r i := by unfold coneOf; rw [e1, e2]; rfl
  rw [e, abv_of hv hr hi hp]
  refine ⟨cone_nodup hv hr, by rw [coneL_above hr hi hp]; simp, by rw [coneL_above hr hi hp]; simp⟩
theorem mem_union {p : List (List Int)} {L : List Int} {x : Int} : x ∈ unionL p L ↔ ∃ l ∈ L, x ∈ coneOf p l := by
  unfold unionL
  rw [List.mem_filter, inL_iff, List.mem_flatMap]
  exact ⟨fun h => h.2, fun h => ⟨by obtain ⟨l, _, h2⟩ := h; exact cone_labels h2, h⟩⟩
theorem union_nodup {p : List (List Int)} (hv : ValidP p) (L : List Int) : (unionL p L).Nodup := (labels_nodup hv).filter _
theorem union_one {p : List (List Int)} (hv : ValidP p) {l : Int} (hl : l ∈ labelsL p) : (unionL p [l]).length = (abvL p l).length + 1 := by
  obtain ⟨h1, h2, _⟩ := coneOf_eq hv hl
  rw [← h2]
  refine List.Perm.length_eq ((List.perm_ext_iff_of_nodup (union_nodup hv _) h1).2 fun x => ?_)
  rw [mem_union]
  simp
theorem ok_one {p : List (List Int)} {L : List Int} (h : OkL p L) {k : Nat} (hk : k < L.length) : OkL p [gi L k] := ⟨fun l hl => by rw [List.mem_singleton.1 hl]; exact h.1 _ (gi_mem hk), by simp⟩
theorem union_le {p : List (List Int)} (hv : ValidP p) {L : List Int} {k : Nat} (hk : k < L.length) : (unionL p [gi L k]).length ≤ (unionL p L).length := by
  refine nodup_le _ _ (union_nodup hv _) fun x hx => ?_
  obtain ⟨l, h1, h2⟩ := mem_union.1 hx
  exact mem_union.2 ⟨gi L k, gi_mem hk, by rw [← List.mem_singleton.1 h1]; exact h2⟩
theorem union_ge {p : List (List Int)} (hv : ValidP p) {L : List Int} (h : OkL p L) : L.length ≤ (unionL p L).length :=
  nodup_le _ _ h.2 fun x hx => mem_union.2 ⟨x, hx, (coneOf_eq hv (h.1 x hx)).2.2⟩
def sumM (p : List (List Int)) (L : List Int) : Nat := (L.map fun l => (abvL p l).length + 1).sum
theorem sumM_succ {p : List (List Int)} {L : List Int} {k : Nat} (h : k < L.length) : sumM p (L.take (k + 1)) = sumM p (L.take k) + ((abvL p (gi L k)).length + 1) := by
  rw [take_gi h]; simp [sumM]
theorem sumM_le (p : List (List Int)) : ∀ L : List Int, sumM p L ≤ L.length * (tot p + 1)
  | [] => by simp [sumM]
  | x :: t => by
    have h1 := sumM_le p t
    have h2 := abvL_len p x
    have : sumM p (x :: t) = (abvL p x).length + 1 + sumM p t := by simp [sumM]
    rw [this, List.length_cons, Nat.succ_mul]; omega
theorem union_sum {p : List (List Int)} (hv : ValidP p) {L : List Int} (h : OkL p L) : (unionL p L).length ≤ sumM p L := by
  have h1 : (unionL p L).length ≤ (L.flatMap (coneOf p)).length := nodup_le _ _ (union_nodup hv _) fun x hx => List.mem_flatMap.2 (mem_union.1 hx)
  have h2 : ∀ M : List Int, (∀ l ∈ M, l ∈ labelsL p) → (M.flatMap (coneOf p)).length = sumM p M := by
    intro M
    induction M with
    | nil => intro _; rfl
    | cons x t ih =>
      intro hm
      rw [List.flatMap_cons, List.length_append, ih fun l hl => hm l (List.mem_cons_of_mem _ hl), (coneOf_eq hv (hm x List.mem_cons_self)).2.1]
      simp [sumM]
  rw [h2 L h.1] at h1
  exact h1
theorem ok_rev {p : List (List Int)} {L : List Int} (h : OkL p L) : OkL p L.reverse := ⟨fun l hl => h.1 l (List.mem_reverse.1 hl), (List.reverse_perm L).nodup_iff.2 h.2⟩
theorem union_rev (p : List (List Int)) (L : List Int) : unionL p L.reverse = unionL p L := by
  unfold unionL
  refine List.filter_congr fun x _ => ?_
  refine Bool.eq_iff_iff.2 ?_
  rw [inL_iff, inL_iff, List.mem_flatMap, List.mem_flatMap]
  constructor
  · rintro ⟨l, h1, h2⟩; exact ⟨l, List.mem_reverse.1 h1, h2⟩
  · rintro ⟨l, h1, h2⟩; exact ⟨l, List.mem_reverse.2 h1, h2⟩

theorem Ints.cut1 {w : World} {lo hi n c b o k : Nat} {xs : List Int} (h : Ints w lo hi (.slice (some ⟨b, o, none⟩) n c) xs) (hk : k < xs.length) : Ints w lo hi (.slice (some ⟨b, o + k, none⟩) 1 (c - k)) [gi xs k] := by
  have hc := h.cell' hk
  have h64 := h.i64
  obtain ⟨A', c', e, h2, h3, hr, _⟩ := h
  obtain ⟨rfl, rfl, rfl⟩ : some ⟨b, o, none⟩ = A' ∧ n = xs.length ∧ c = c' := by simpa using e
  obtain ⟨b', o', e', hl, hh, _⟩ := hr.2 (by omega)
  simp only [Option.some.injEq, Addr.mk.injEq, and_true] at e'
  obtain ⟨rfl, rfl⟩ := e'
  refine ⟨some ⟨b, o + k, none⟩, c - k, rfl, by simp; omega, by omega, ⟨by simp, fun _ => ⟨b, o + k, rfl, hl, hh, fun j u hu => ?_⟩⟩, fun x hx => by rw [List.mem_singleton.1 hx]; exact h64 _ (gi_mem hk)⟩
  have hj : j = 0 := by
    have := (List.getElem?_eq_some_iff.1 hu).1
    simp at this; exact this
  subst hj
  simp at hu
  rw [← hu]
  exact hc

theorem backwards_any (lo hi : Nat) (v : Value) (xs : List Int) (w : World) (h : Ints w lo hi v xs) (hhi : hi ≤ w.heap.size) (hl : xs.length ≤ 1099511627776) :
    Calls Try.prog 44 #[v] w fun e w' => ∃ v', e = .returned v' ∧ OwnI w' w.heap.size 3 v' xs.reverse ∧ Below w.heap.size w w' := by
  obtain ⟨A, c, rfl, hc, hm⟩ := h.form
  go_enter Try.func44, Try.ntmps44
  go_wp2
  go_loopw [3, 4] (fun v i wr => ∃ (k : Nat), k ≤ xs.length ∧ i = .int .i64 ((k : Int) - 1) ∧ OwnI wr w.heap.size 3 v (xs.drop k).reverse ∧ Below w.heap.size w wr) (fun _ i _ => (intOf i + 1).toNat)
  case atStart => exact ⟨xs.length, Nat.le_refl _, rfl, by simpa using OwnI.empty w w.heap.size 3 (Nat.le_refl _), (Below.refl _ _).alloc (Nat.le_refl _) _⟩
  case round =>
    obtain ⟨k, hk, rfl, hown, hb⟩ := hrel
    rcases Nat.eq_zero_or_pos k with h0 | h0
    · have H0 := Lib.hid h0
      have hle : k ≤ 0 := by omega
      clear h0
      go_wp2
      go_ret
      refine ⟨_, rfl, ?_, hb⟩
      rw [H0.out] at hown
      simpa using hown
    · obtain ⟨q, rfl⟩ : ∃ q, k = q + 1 := ⟨k - 1, by omega⟩
      have hlt : q < xs.length := by omega
      obtain ⟨b, o, rfl, hbl, hbh, hcell, h64⟩ := (h.below hb hhi).cell hlt
      have e1 : (((q + 1 : Nat) : Int) - 1) = (q : Int) := by omega
      rw [e1]
      clear e1
      have Ht := Lib.hid (drop_gi hlt)
      have hlen : (xs.drop (q + 1)).reverse.length ≤ 1099511627776 := by rw [List.length_reverse, List.length_drop]; omega
      go_wp2_with (at_builtin; refine wpList_appendI SlI _ rfl (.tmp 13) (.tmp 18) rfl _ w.heap.size _ _ rfl rfl hown h64 hlen hb.size ?_; intro v' w1 hown1 hg)
      go_roundw
      case rel => exact ⟨q, by omega, by go_num, by rw [Ht.out, List.reverse_cons]; exact hown1, hb.trans hg.below⟩
      case measure => simp [intOf] <;> omega

set_option maxRecDepth 100000 in
set_option maxHeartbeats 4000000 in
theorem FnMovesFor_walk (v : Value) (xs : List Int) (w : World) (h : Bytes w 0 w.heap.size v xs) :
    Calls Try.prog 13 #[v] w fun e w' => e = .returned (.bool true) ∧ Below w.heap.size w w' := by
  obtain ⟨A0, c0, rfl, hc0, hm0⟩ := h.form
  by_cases hbig : 1048576 < xs.length
  · go_enter Try.func13, Try.ntmps13
    go_wp2_with fail
    go_ret
    exact ⟨rfl, Below.refl _ _⟩
  · go_enter Try.func13, Try.ntmps13
    go_wp2_with fail
    refine (DrawMovesFor_any _ _ _ h).mono ?_
    rintro e w1 ⟨v1, p, u, L, rfl, ⟨s, o1, hs1, hpl, htp, B1⟩, hL1, hL3⟩
    obtain ⟨A, c, rfl, hc, hm⟩ := o1.form
    have hp1 := o1.rows
    obtain ⟨A2, c2, rfl, hc2, hm2⟩ := hL1.form
    obtain ⟨N, hN⟩ : ∃ N, N = movS p L := ⟨_, rfl⟩
    have HN := Lib.hid hN
    have HI := Lib.hid (show N = movI p L by rw [hN, mov_eq])
    clear hN
    go_wp2_with fail
    refine (MovesFor_any _ _ _ _ _ _ _ _ _ hp1 hs1 (by omega) hL1 (Nat.le_refl _) (by omega)).mono ?_
    rw [← HI.out]
    rintro e w2 ⟨rfl, D2⟩
    have s2 := D2.size
    go_wp2_with fail
    refine (sMovesFor_any _ _ _ _ _ _ _ _ _ (hp1.below D2 hs1) (by omega) (by omega) (hL1.below D2 (Nat.le_refl _)) s2 (by omega)).mono ?_
    rw [← HN.out]
    rintro e w3 ⟨rfl, b3⟩
    have D3 := D2.trans (b3.mono s2)
    have s3 := D3.size
    by_cases hneg : N < 0
    · have g1 : decide (N < 0) = true := decide_eq_true hneg
      go_wp2_with fail
      refine (sMovesFor_any _ _ _ _ _ _ _ _ _ (hp1.below D3 hs1) (by omega) (by omega) (hL1.below D3 (Nat.le_refl _)) s3 (by omega)).mono ?_
      rw [← HN.out]
      rintro e w4 ⟨rfl, b4⟩
      go_wp2_with fail
      go_ret
      exact ⟨rfl, B1.trans ((D3.trans (b4.mono s3)).mono B1.size)⟩
    · have g1 : decide (N < 0) = false := decide_eq_false hneg
      obtain ⟨hV, hok⟩ := mov_pos (p := p) (L := L) (by rw [← HN.out]; exact hneg)
      have hval := mov_val hV hok
      rw [← HN.out] at hval
      have hge := union_ge hV hok
      have hle := union_sum hV hok
      have hsl := sumM_le p L
      obtain ⟨U, hU⟩ : ∃ U, U = (unionL p L).length := ⟨_, rfl⟩
      rw [← hU] at hval hge hle
      have HU := Lib.hid hU
      have HVO := Lib.hid (show ValidP p ∧ OkL p L from ⟨hV, hok⟩)
      subst hval
      have hsl2 : sumM p L ≤ 123 := by
        have : L.length * (tot p + 1) ≤ 3 * 41 := Nat.mul_le_mul hL3 (by omega)
        omega
      have hp3 := hp1.below D3 hs1
      have hL3' := hL1.below D3 (Nat.le_refl _)
      clear hV hok hU hsl hneg
      go_wp2_with fail
      go_loopw [6, 7, 8] (fun n i _ wr => ∃ k : Nat, k ≤ L.length ∧ i = .int .i64 k ∧ n = .int .i64 ((sumM p (L.take k) : Nat) : Int) ∧ Below w3.heap.size w3 wr) (fun _ i _ _ => L.length - (intOf i).toNat)
      case atStart => exact ⟨0, by omega, rfl, by simp [sumM], Below.refl _ _⟩
      case round =>
        obtain ⟨k, hk, rfl, rfl, bw⟩ := hrel
        have Dr := D3.trans (bw.mono s3)
        have sr := Dr.size
        have hpr := hp3.below bw (by omega)
        have hLr := hL3'.below bw s3
        by_cases hlt : k < L.length
        · obtain ⟨b, o, rfl, hbl, hbh, hcell, h64⟩ := hLr.cell hlt
          have hcut := hLr.cut1 hlt
          have hmem := HVO.out.2.1 _ (gi_mem hlt)
          have hone := mov_val HVO.out.1 (ok_one HVO.out.2 hlt)
          have hul := union_le HVO.out.1 hlt
          have huo := union_one HVO.out.1 hmem
          rw [← HU.out] at hul
          rw [huo] at hul hone
          have hss := sumM_succ (p := p) hlt
          have hst : sumM p (L.take (k + 1)) ≤ 123 := by
            have h1 := sumM_le p (L.take (k + 1))
            have h2 : (L.take (k + 1)).length * (tot p + 1) ≤ 3 * 41 := Nat.mul_le_mul (by rw [List.length_take]; omega) (by omega)
            omega
          obtain ⟨X, hX⟩ : ∃ X, X = abvL p (gi L k) := ⟨_, rfl⟩
          rw [← hX] at hone hul hss
          have HX := Lib.hid hX
          have Hone := Lib.hid hone
          obtain ⟨S, hS⟩ : ∃ S, S = sumM p (L.take k) := ⟨_, rfl⟩
          rw [← hS] at hss ⊢
          rw [hss] at hst
          have Hss := Lib.hid hss
          have hkc : ¬ k = c2 := by omega
          have hkc2 : k + 1 ≤ c2 := by omega
          clear hmem hone huo hX hss hS
          go_wp2_with fail
          have q1 : w1.heap.size ≤ wr.heap.size := by omega
          have q2 : tot p ≤ 1048576 := by omega
          have hl1 : [gi L k].length ≤ 1048576 := by rw [List.length_singleton]; omega
          have hh := MovesFor_any _ _ _ _ _ _ _ _ _ hpr (Nat.le_trans hs1 q1) q2 hcut q1 hl1
          rw [mov_eq, Hone.out] at hh
          refine hh.mono ?_
          rintro e w4 ⟨rfl, b4⟩
          have D4 := Dr.trans (b4.mono sr)
          have s4 := D4.size
          have hL4 := (hLr.below b4 (by omega)).cell' hlt
          have bw4 := bw.trans (b4.mono bw.size)
          have s34 := bw4.size
          go_wp2_with fail
          have q3 : w1.heap.size ≤ w4.heap.size := by omega
          have hh2 := AboveOf_any _ _ _ _ (gi L k) _ (hpr.below b4 (Nat.le_trans hs1 q1)) (Nat.le_trans hs1 q3) (by omega)
          rw [← HX.out] at hh2
          refine hh2.mono ?_
          rintro e w5 ⟨v5, rfl, o5, b5⟩
          obtain ⟨A5, c5, rfl, _, _⟩ := o5.form
          have hne : ((((X.length + 1 : Nat) : Int)) != (X.length : Int) + 1) = false := bne_f (by omega)
          go_wp2_with fail
          go_roundw
          case rel => exact ⟨k + 1, by omega, by go_num, by rw [Hss.out]; go_num, bw4.trans (b5.mono s34)⟩
          case measure => simp [intOf]; omega
        · have He : sumM p (L.take k) = sumM p L := by rw [List.take_of_length_le (by omega)]
          rw [He]
          obtain ⟨S, hS⟩ : ∃ S, S = sumM p L := ⟨_, rfl⟩
          rw [← hS] at hle hsl2 ⊢
          clear He hS
          go_wp2_with fail
          refine (backwards_any _ _ _ _ _ hLr (by omega) (by omega)).mono ?_
          rintro e w4 ⟨v4, rfl, o4, b4⟩
          have D4 := Dr.trans (b4.mono sr)
          have s4 := D4.size
          obtain ⟨R, hR⟩ : ∃ R, R = L.reverse := ⟨_, rfl⟩
          rw [← hR] at o4
          have hlR : R.length = L.length := by rw [hR, List.length_reverse]
          have HR := Lib.hid hR
          clear hR
          obtain ⟨A4, c4, rfl, _, _⟩ := o4.form
          go_wp2_with fail
          have q1 : w1.heap.size ≤ wr.heap.size := by omega
          have q2 : tot p ≤ 1048576 := by omega
          have q3 : w1.heap.size ≤ w4.heap.size := by omega
          have hl1 : R.length ≤ 1048576 := by omega
          have hh := MovesFor_any _ _ _ _ _ _ _ _ _ (hpr.below b4 (Nat.le_trans hs1 q1)) (Nat.le_trans hs1 q3) q2 o4.ints (Nat.le_refl _) hl1
          rw [hlR, mov_eq, HR.out, mov_val HVO.out.1 (ok_rev HVO.out.2), union_rev, ← HU.out] at hh
          refine hh.mono ?_
          rintro e w5 ⟨rfl, b5⟩
          go_wp2_with fail
          go_ret
          exact ⟨rfl, B1.trans ((D4.trans (b5.mono s4)).mono B1.size)⟩
end Go.Proofs.Ytpimbibmlmjjpaa
