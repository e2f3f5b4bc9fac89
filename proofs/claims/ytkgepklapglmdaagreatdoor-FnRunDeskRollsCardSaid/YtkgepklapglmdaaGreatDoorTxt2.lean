/-
  Lemmas and contracts of single functions of this program, used by the proofs of its laws: what each call returns and what becomes of memory. Conditions: the hypotheses of each theorem.
-/
import Derived.Test.YtkgepklapglmdaaGreatDoorTxt1
import Derived.Test.YtkgepklapglmdaaGreatDoorMReel
namespace Go.Proofs.YtkgepklapglmdaaGreatDoor
open Go.RowKit
attribute [local go_sem ↓] Go.wp_at_zero Go.wp_at_succ

def EvZ : Value := .agg #[.int .i64 0, .int .i64 0, .int .i64 0, .int .i64 0, .int .i64 0, .int .i64 0, .int .i64 0]
def PePost (l : List UInt8) (w : World) (e : Ending) (w' : World) : Prop := Below w.heap.size w w' ∧ ((parE l = none ∧ e = .returned (.tuple #[EvZ, .bool false])) ∨
  ∃ k a b c d f g : Int, parE l = some [k, a, b, c, d, f, g] ∧ (0 ≤ k ∧ k ≤ 3) ∧ (∀ x ∈ [a, b, c, d, f, g], 0 ≤ x ∧ x ≤ 999999) ∧ e = .returned (.tuple #[.agg #[.int .i64 k, .int .i64 a, .int .i64 b, .int .i64 c, .int .i64 d, .int .i64 f, .int .i64 g], .bool true]))
theorem below7 {B X : Nat} {w w1 : World} (h : Below B w w1) (hX : B ≤ X) (v0 v1 v2 v3 v4 v5 v6 : Value) : Below B w (((((((w1.setCell ⟨X, 0, none⟩ v0).setCell ⟨X, 1, none⟩ v1).setCell ⟨X, 2, none⟩ v2).setCell ⟨X, 3, none⟩ v3).setCell ⟨X, 4, none⟩ v4).setCell ⟨X, 5, none⟩ v5).setCell ⟨X, 6, none⟩ v6) :=
  ((((((h.setCell (p := ⟨X, 0, none⟩) hX v0).setCell (p := ⟨X, 1, none⟩) hX v1).setCell (p := ⟨X, 2, none⟩) hX v2).setCell (p := ⟨X, 3, none⟩) hX v3).setCell (p := ⟨X, 4, none⟩) hX v4).setCell (p := ⟨X, 5, none⟩) hX v5).setCell (p := ⟨X, 6, none⟩) hX v6
theorem Strs.wide {w : World} {lo hi lo' hi' : Nat} {v : Value} {xs : List (List UInt8)} (h : Strs w lo hi v xs) (hl : lo' ≤ lo) (hh : hi ≤ hi') : Strs w lo' hi' v xs := by
  obtain ⟨A, c, h1, h2, h3, h4⟩ := h
  exact ⟨A, c, h1, h2, h3, h4.wide hl hh⟩
theorem parE_bad {l w0 : List UInt8} {xs : List (List UInt8)} (h : splitC 32 [] l = w0 :: xs) (hb : badN xs = true) : parE l = none := by unfold parE; rw [h]; dsimp only; rw [if_pos hb]
theorem parE_no {l w0 : List UInt8} {xs : List (List UInt8)} (h : splitC 32 [] l = w0 :: xs) (hk : kndT w0 xs.length = none) : parE l = none := by
  unfold parE; rw [h]; dsimp only
  split
  · rfl
  · rw [hk]
theorem parE_yes {l w0 : List UInt8} {xs : List (List UInt8)} {k : Int} (h : splitC 32 [] l = w0 :: xs) (hb : badN xs = false) (hk : kndT w0 xs.length = some k) : parE l = some (evS k (xs.map nmL) (xs.map nmL).length) := by
  unfold parE; rw [h]; dsimp only; rw [if_neg (by rw [hb]; simp), hk]
theorem badN_at {xs : List (List UInt8)} {j : Nat} (h : j < xs.length) (hn : nmL (gs xs j) < 0) : badN xs = true := by
  unfold badN
  rw [List.any_eq_true]
  exact ⟨gs xs j, by rw [gs_eq h]; exact List.getElem_mem h, by simpa using hn⟩
theorem badN_all {xs : List (List UInt8)} (h : ∀ j, j < xs.length → 0 ≤ nmL (gs xs j)) : badN xs = false := by
  unfold badN
  rw [List.any_eq_false]
  intro x hx
  obtain ⟨j, hj, rfl⟩ := List.mem_iff_getElem.1 hx
  have := h j hj
  rw [gs_eq hj] at this
  simpa using this
theorem map_nm_take {xs : List (List UInt8)} {j : Nat} (h : j < xs.length) : (xs.take (j + 1)).map nmL = (xs.take j).map nmL ++ [nmL (gs xs j)] := by
  rw [List.take_succ_eq_append_getElem h, List.map_append, gs_eq h]; rfl
theorem gi_mapnm {xs : List (List UInt8)} {j : Nat} (h : j < xs.length) : gi (xs.map nmL) j = nmL (gs xs j) := by
  rw [gi_eq (by simpa using h), List.getElem_map, gs_eq h]
theorem gs_cons (a : List UInt8) (t : List (List UInt8)) (j : Nat) : gs (a :: t) (j + 1) = gs t j := rfl
theorem split_memlen {c : UInt8} {l : List UInt8} {j : Nat} : (gs (splitC c [] l) j).length ≤ l.length := by
  by_cases h : j < (splitC c [] l).length
  · rw [gs_eq h]
    have := splitC_mem c l [] _ (List.getElem_mem h)
    simpa using this
  · unfold gs; rw [List.getD_eq_getElem?_getD, List.getElem?_eq_none (by omega)]; simp
theorem len2 {ns : List Int} (h : ns.length = 2) : ∃ x0 x1 : Int, ns = [x0, x1] := by
  match ns, h with
  | [x0, x1], _ => exact ⟨x0, x1, rfl⟩
theorem len3 {ns : List Int} (h : ns.length = 3) : ∃ x0 x1 x2 : Int, ns = [x0, x1, x2] := by
  match ns, h with
  | [x0, x1, x2], _ => exact ⟨x0, x1, x2, rfl⟩
theorem len5 {ns : List Int} (h : ns.length = 5) : ∃ x0 x1 x2 x3 x4 : Int, ns = [x0, x1, x2, x3, x4] := by
  match ns, h with
  | [x0, x1, x2, x3, x4], _ => exact ⟨x0, x1, x2, x3, x4, rfl⟩
theorem len6 {ns : List Int} (h : ns.length = 6) : ∃ x0 x1 x2 x3 x4 x5 : Int, ns = [x0, x1, x2, x3, x4, x5] := by
  match ns, h with
  | [x0, x1, x2, x3, x4, x5], _ => exact ⟨x0, x1, x2, x3, x4, x5, rfl⟩
set_option maxRecDepth 100000 in
set_option maxHeartbeats 8000000 in
theorem parseEventS_any (l : List UInt8) (s : ByteArray) (hs : s = TB l) (w : World) (hl : l.length ≤ 4294967295) :
    Calls Tryz.prog 91 #[.string s] w fun e w' => PePost l w e w' := by
  have HS := Lib.hid hs
  clear hs
  have Hs := Lib.hid (show ∃ w1, w1 = (w.alloc (.cells #[.int .i64 0, .int .i64 0, .int .i64 0, .int .i64 0, .int .i64 0, .int .i64 0, .int .i64 0] 40)) ∧ Below w.heap.size w w1 ∧ w1.cell? ⟨w.heap.size, 0, none⟩ = some (.int .i64 0) ∧ w1.cell? ⟨w.heap.size, 1, none⟩ = some (.int .i64 0) ∧ w1.cell? ⟨w.heap.size, 2, none⟩ = some (.int .i64 0) ∧ w1.cell? ⟨w.heap.size, 3, none⟩ = some (.int .i64 0) ∧ w1.cell? ⟨w.heap.size, 4, none⟩ = some (.int .i64 0) ∧ w1.cell? ⟨w.heap.size, 5, none⟩ = some (.int .i64 0) ∧ w1.cell? ⟨w.heap.size, 6, none⟩ = some (.int .i64 0) ∧ w1.frozen? ⟨w.heap.size, 0, none⟩ = false ∧ w1.frozen? ⟨w.heap.size, 1, none⟩ = false ∧ w1.frozen? ⟨w.heap.size, 2, none⟩ = false ∧ w1.frozen? ⟨w.heap.size, 3, none⟩ = false ∧ w1.frozen? ⟨w.heap.size, 4, none⟩ = false ∧ w1.frozen? ⟨w.heap.size, 5, none⟩ = false ∧ w1.frozen? ⟨w.heap.size, 6, none⟩ = false ∧ w.heap.size < w1.heap.size from by
    have hb : Below w.heap.size w (w.alloc (.cells #[.int .i64 0, .int .i64 0, .int .i64 0, .int .i64 0, .int .i64 0, .int .i64 0, .int .i64 0] 40)) := (Below.refl _ _).alloc (Nat.le_refl _) _
    exact ⟨_, rfl, hb, by go_simp, by go_simp, by go_simp, by go_simp, by go_simp, by go_simp, by go_simp, by go_simp, by go_simp, by go_simp, by go_simp, by go_simp, by go_simp, by go_simp, by simp⟩)
  go_enter Tryz.func91, Tryz.ntmps91
  go_wp2_with fail
  obtain ⟨w1, hw1, hb0, c00, c01, c02, c03, c04, c05, c06, f00, f01, f02, f03, f04, f05, f06, hz⟩ := Hs.out
  rw [← hw1]
  clear hw1 Hs
  refine (splitAt_any 32 32 rfl l s HS.out w1 (by omega)).mono ?_
  rintro e w2 ⟨vw, rfl, hw2, b2⟩
  replace c00 := keepB b2 c00; replace c01 := keepB b2 c01; replace c02 := keepB b2 c02; replace c03 := keepB b2 c03; replace c04 := keepB b2 c04; replace c05 := keepB b2 c05; replace c06 := keepB b2 c06
  replace f00 := keepF b2 (by first | (simp; done) | (simp; omega)) f00; replace f01 := keepF b2 (by first | (simp; done) | (simp; omega)) f01; replace f02 := keepF b2 (by first | (simp; done) | (simp; omega)) f02; replace f03 := keepF b2 (by first | (simp; done) | (simp; omega)) f03; replace f04 := keepF b2 (by first | (simp; done) | (simp; omega)) f04; replace f05 := keepF b2 (by first | (simp; done) | (simp; omega)) f05; replace f06 := keepF b2 (by first | (simp; done) | (simp; omega)) f06
  have HB2 := Lib.hid (hb0.trans (b2.mono (by omega)))
  have hz2 : w.heap.size < w2.heap.size := by have := b2.size; omega
  have HW2 := Lib.hid (hw2.strs.wide (show w.heap.size ≤ w1.heap.size by omega) (Nat.le_refl _))
  obtain ⟨Aw, cw, rfl, hcw, hcw2⟩ := hw2.form
  clear b2 hb0 hw2
  obtain ⟨W, hW⟩ : ∃ W, W = splitC 32 [] l := ⟨_, rfl⟩
  have HWL := Lib.hid (show W.length ≤ l.length + 1 by rw [hW, splitC_len]; have : l.count 32 ≤ l.length := List.count_le_length; omega)
  have HML := Lib.hid (show ∀ j, (gs W j).length ≤ l.length from fun j => by rw [hW]; exact split_memlen)
  have hne := splitC_ne 32 l []
  rw [← hW] at HW2 hcw hne ⊢
  have HWE := Lib.hid hW.symm
  clear hW
  obtain ⟨w0, xs, rfl⟩ : ∃ a t, W = a :: t := by
    cases W with
    | nil => exact absurd rfl hne
    | cons a t => exact ⟨a, t, rfl⟩
  have hWl : (w0 :: xs).length = xs.length + 1 := rfl
  rw [hWl] at HWL hcw ⊢
  rw [show (Value.slice Aw (w0 :: xs).length cw) = Value.slice Aw (xs.length + 1) cw from rfl] at HW2
  obtain ⟨bw, ow, hAw, hbw1, hbw2, cz0⟩ := HW2.out.cell (k := 0) (by simp)
  subst hAw
  have HZ0 := Lib.hid (show gs (w0 :: xs) 0 = w0 from rfl)
  rw [HZ0.out] at cz0
  obtain ⟨z0, hz0⟩ : ∃ z, z = TB w0 := ⟨_, rfl⟩
  have HZZ := Lib.hid (show z0.toList = w0 by rw [hz0, TB_toList])
  rw [← hz0] at cz0
  have hxl : xs.length ≤ 4294967295 := by have := HWL.out; omega
  clear hz0 hne hWl
  have bl : Below w2.heap.size w2 (w2.alloc (.cells #[] 3)) := (Below.refl _ _).alloc (Nat.le_refl _) _
  have HE0 := Lib.hid (OwnI.empty w2 w2.heap.size 3 (Nat.le_refl _))
  have HBL := Lib.hid bl
  have hzl : w2.heap.size ≤ (w2.alloc (.cells #[] 3)).heap.size := bl.size
  clear bl
  go_wp2
  go_loopw [5, 6, 7] (fun nv i _ wr => ∃ j : Nat, j ≤ xs.length ∧ i = .int .i64 ((j : Int) + 1) ∧ Hid (∀ i, i < j → 0 ≤ nmL (gs xs i)) ∧ Hid (OwnI wr w2.heap.size 3 nv ((xs.take j).map nmL)) ∧ Hid (Below w2.heap.size w2 wr) ∧ w2.heap.size ≤ wr.heap.size) (fun _ i _ _ => xs.length + 1 - (intOf i).toNat)
  case atStart => exact ⟨0, Nat.zero_le _, rfl, fun i hi => absurd hi (by omega), by show OwnI _ _ _ _ _; simpa using HE0.out, HBL.out, hzl⟩
  case round =>
    obtain ⟨j, hj, rfl, HP, HO, HB, hzr⟩ := hrel
    clear HE0 HBL hzl
    obtain ⟨wo, rfl⟩ : ∃ wo : World, wo = wr := ⟨_, rfl⟩
    have c00 := keepB HB.out c00
    have c01 := keepB HB.out c01
    have c02 := keepB HB.out c02
    have c03 := keepB HB.out c03
    have c04 := keepB HB.out c04
    have c05 := keepB HB.out c05
    have c06 := keepB HB.out c06
    have f00 := keepF HB.out (by first | (simp; done) | (simp; omega)) f00
    have f01 := keepF HB.out (by first | (simp; done) | (simp; omega)) f01
    have f02 := keepF HB.out (by first | (simp; done) | (simp; omega)) f02
    have f03 := keepF HB.out (by first | (simp; done) | (simp; omega)) f03
    have f04 := keepF HB.out (by first | (simp; done) | (simp; omega)) f04
    have f05 := keepF HB.out (by first | (simp; done) | (simp; omega)) f05
    have f06 := keepF HB.out (by first | (simp; done) | (simp; omega)) f06
    have HBB := Lib.hid (HB2.out.trans (HB.out.mono (Nat.le_of_lt hz2)))
    obtain ⟨Ao, co, rfl, hco, hco2⟩ := HO.out.form
    by_cases hlt : j < xs.length
    · have i1 : ((j : Int) + 1) < ((xs.length + 1 : Nat) : Int) := by omega
      have i1' : (j : Int) < (xs.length : Int) := by omega
      have i0 : (0 : Int) ≤ (j : Int) + 1 := by omega
      have hcell := (HW2.out.below HB.out (Nat.le_refl _)).cell' (k := j + 1) (by simp; omega)
      rw [gs_cons] at hcell
      have hcell2 : wo.cell? ⟨bw, ow + ((j : Int) + 1).toNat, none⟩ = some (.string (TB (gs xs j))) := by rw [show ((j : Int) + 1).toNat = j + 1 by omega]; exact hcell
      obtain ⟨ze, hze⟩ : ∃ z, z = TB (gs xs j) := ⟨_, rfl⟩
      have HZE := Lib.hid hze
      rw [← hze] at hcell hcell2
      have hxlen : (gs xs j).length ≤ 4294967296 := by have := HML.out (j + 1); rw [gs_cons] at this; omega
      have hnr := nmL_rng (gs xs j)
      have HBAD := Lib.hid (show nmL (gs xs j) < 0 → parE l = none from fun h => parE_bad HWE.out (badN_at hlt h))
      have HT := Lib.hid (map_nm_take hlt)
      have HP2 := Lib.hid (show 0 ≤ nmL (gs xs j) → ∀ i, i < j + 1 → 0 ≤ nmL (gs xs i) from fun h i hi => by
        rcases Nat.lt_or_ge i j with h' | h'
        · exact HP.out i h'
        · obtain rfl : i = j := by omega
          exact h)
      obtain ⟨x, hx⟩ : ∃ x, x = nmL (gs xs j) := ⟨_, rfl⟩
      have HX := Lib.hid hx
      rw [← hx] at hnr HBAD HT HP2
      have hjlen : ((xs.take j).map nmL).length = j := by rw [List.length_map, List.length_take]; omega
      have HOL := Lib.hid (show ((xs.take j).map nmL).length ≤ 1099511627776 by omega)
      rw [hjlen] at HO hco ⊢
      clear hze hx hjlen
      go_wp2_with fail
      refine (readNumber_any (gs xs j) ze HZE.out wo hxlen).mono ?_
      rw [← HX.out]
      rintro e x1 ⟨rfl, hx1⟩
      subst hx1
      by_cases hneg : x < 0
      · have HN := Lib.hid (HBAD.out hneg)
        clear HBAD HP2
        go_wp2
        refine bodyPost_ret (v := .tuple #[EvZ, .bool false]) (by simp [results, EvZ, Tryz.results91, go_sem, *]) rfl ?_
        exact ⟨below7 HBB.out (Nat.le_refl _) _ _ _ _ _ _ _, .inl ⟨HN.out, rfl⟩⟩
      have HP3 := Lib.hid (HP2.out (by omega))
      have hxI : I64 x := ⟨by omega, by omega⟩
      clear HBAD HP2
      go_wp2_with (at_builtin; refine wpList_appendI SlI wo rfl (.tmp 25) (.tmp 27) rfl x w2.heap.size _ ((xs.take j).map nmL) rfl rfl HO.out hxI HOL.out hzr ?_; intro v6 w6 ho6 hg6)
      have HO6 := Lib.hid (show OwnI w6 w2.heap.size 3 v6 ((xs.take (j + 1)).map nmL) by rw [HT.out]; exact ho6)
      have HB6 := Lib.hid (HB.out.trans hg6.below)
      clear ho6 hg6
      go_roundw
      case rel => exact ⟨j + 1, hlt, by go_num, HP3.out, HO6.out, HB6.out, by have := HB6.out.size; omega⟩
      case measure => simp [intOf]; omega
    have hni : ¬ ((j : Int) + 1) < ((xs.length + 1 : Nat) : Int) := by omega
    have hni' : ¬ (j : Int) < (xs.length : Int) := by omega
    have HBN := Lib.hid (show badN xs = false from badN_all fun i hi => HP.out i (by omega))
    obtain ⟨ns, hns⟩ : ∃ ns, ns = xs.map nmL := ⟨_, rfl⟩
    have HON := Lib.hid (show OwnI wo w2.heap.size 3 (.slice Ao ns.length co) ns by
      have h9 := HO.out
      rw [List.take_of_length_le (by omega), ← hns] at h9
      exact h9)
    have hnl : ns.length = xs.length := by rw [hns, List.length_map]
    have HNN := Lib.hid (show ∀ i, i < ns.length → 0 ≤ gi ns i ∧ gi ns i ≤ 999999 from fun i hi => by
      rw [hns, gi_mapnm (by omega)]
      exact ⟨HP.out i (by omega), (nmL_rng _).2⟩)
    have HNS := Lib.hid hns
    have cz : wo.cell? ⟨bw, ow, none⟩ = some (.string z0) := keepB HB.out cz0
    have HOK := Lib.hid (fun k (hk : kndT w0 xs.length = some k) => by have h9 := parE_yes HWE.out HBN.out hk; rw [← hns] at h9; exact h9)
    have HNO := Lib.hid (fun (hk : kndT w0 xs.length = none) => parE_no (l := l) HWE.out hk)
    rw [← hnl] at HOK HNO
    have HNL := Lib.hid hnl
    have hjlen : ((xs.take j).map nmL).length = ns.length := by rw [List.take_of_length_le (by omega), hns]
    rw [hjlen] at hco ⊢
    clear HO hns HP hnl hjlen
    by_cases hk0 : w0 = [114, 101, 101, 108] ∧ ns.length = 3
    · have q0 : (z0.toList == [114, 101, 101, 108]) = true := by rw [HZZ.out, hk0.1]; rfl
      have q1 : z0.toList = [114, 101, 101, 108] := by rw [HZZ.out, hk0.1]
      have e0 : ((ns.length : Int) == 3) = true := beq_t (by omega)
      have hkk := HOK.out 0 (by rw [hk0.1, hk0.2]; rfl)
      obtain ⟨x0, x1, x2, rfl⟩ : ∃ x0 x1 x2 : Int, ns = [x0, x1, x2] := len3 hk0.2
      have h0 : 0 ≤ x0 ∧ x0 ≤ 999999 := HNN.out 0 (by simp)
      have h1 : 0 ≤ x1 ∧ x1 ≤ 999999 := HNN.out 1 (by simp)
      have h2 : 0 ≤ x2 ∧ x2 ≤ 999999 := HNN.out 2 (by simp)
      obtain ⟨bn, on, hAn, hbn1, _, d0, _⟩ := HON.out.ints.cell (k := 0) (by simp)
      subst hAn
      have hne1 : ¬ bn = w.heap.size := by omega
      have hne2 : ¬ w.heap.size = bn := by omega
      have d1 := HON.out.ints.cell' (k := 1) (by simp)
      have d2 := HON.out.ints.cell' (k := 2) (by simp)
      replace d0 : wo.cell? ⟨bn, on + 0, none⟩ = some (.int .i64 x0) := d0
      replace d1 : wo.cell? ⟨bn, on + 1, none⟩ = some (.int .i64 x1) := d1
      replace d2 : wo.cell? ⟨bn, on + 2, none⟩ = some (.int .i64 x2) := d2
      replace d0 : wo.cell? ⟨bn, on, none⟩ = some (.int .i64 x0) := d0
      have HKK := Lib.hid (show parE l = some [0, x0, 0, x1, 0, x2, 0] from hkk)
      clear hkk HOK HNO hk0
      go_wp2
      refine wp_region_held_drew (S := fun w' => w'.cell? ⟨bn, on, none⟩ = some (.int .i64 x0) ∧ w'.cell? ⟨bn, on + 1, none⟩ = some (.int .i64 x1) ∧ w'.cell? ⟨bn, on + 2, none⟩ = some (.int .i64 x2)) (by kernel_rfl) ?_ (fun hHeld => ?_)
      · (first | (try dsimp only); go_keep | (go_split_ands; refine ⟨?_, ?_, ?_⟩ <;> first | assumption))
      refine wpAnyH_take (i := 0) (oi := ⟨some 39, _, _, _, _, _⟩) (v := _) rfl (by kernel_rfl) (by kernel_rfl) (by kernel_rfl) (fun _ _ _ h => h) (Or.inl ⟨by kernel_rfl, by intro w hSw; (try dsimp only at hSw); go_simp; try with_reducible rfl⟩) (by assumption) ?_
      simp only [Act.put, List.setIfInBounds_toArray, List.set_cons_zero, List.set_cons_succ]
      refine wpAnyH_take (i := 1) (oi := ⟨some 40, _, _, _, _, _⟩) (v := _) rfl (by kernel_rfl) (by kernel_rfl) (by kernel_rfl) (fun _ _ _ h => h) (Or.inl ⟨by kernel_rfl, by intro w hSw; (try dsimp only at hSw); go_simp; try with_reducible rfl⟩) (by assumption) ?_
      simp only [Act.put, List.setIfInBounds_toArray, List.set_cons_zero, List.set_cons_succ]
      refine wpAnyH_take (i := 2) (oi := ⟨some 41, _, _, _, _, _⟩) (v := _) rfl (by kernel_rfl) (by kernel_rfl) (by kernel_rfl) (fun _ _ _ h => h) (Or.inl ⟨by kernel_rfl, by intro w hSw; (try dsimp only at hSw); go_simp; try with_reducible rfl⟩) (by assumption) ?_
      simp only [Act.put, List.setIfInBounds_toArray, List.set_cons_zero, List.set_cons_succ]
      refine wpAnyH_take (i := 3) (oi := ⟨some 42, _, _, _, _, _⟩) (v := _) rfl (by kernel_rfl) (by kernel_rfl) (by kernel_rfl) (fun _ _ _ h => h) (Or.inl ⟨by kernel_rfl, by intro w hSw; (try dsimp only at hSw); go_simp; try with_reducible rfl⟩) (by assumption) ?_
      simp only [Act.put, List.setIfInBounds_toArray, List.set_cons_zero, List.set_cons_succ]
      refine wpAnyH_take (i := 4) (oi := ⟨some 43, _, _, _, _, _⟩) (v := _) rfl (by kernel_rfl) (by kernel_rfl) (by kernel_rfl) (fun _ _ _ h => h) (Or.inl ⟨by kernel_rfl, by intro w hSw; (try dsimp only at hSw); go_simp; try with_reducible rfl⟩) (by assumption) ?_
      simp only [Act.put, List.setIfInBounds_toArray, List.set_cons_zero, List.set_cons_succ]
      refine wpAnyH_take (i := 5) (oi := ⟨some 44, _, _, _, _, _⟩) (v := _) rfl (by kernel_rfl) (by kernel_rfl) (by kernel_rfl) (fun _ _ _ h => h) (Or.inl ⟨by kernel_rfl, by intro w hSw; (try dsimp only at hSw); go_simp; try with_reducible rfl⟩) (by assumption) ?_
      simp only [Act.put, List.setIfInBounds_toArray, List.set_cons_zero, List.set_cons_succ]
      refine wpAnyH_take (i := 6) (oi := ⟨some 45, _, _, _, _, _⟩) (v := _) rfl (by kernel_rfl) (by kernel_rfl) (by kernel_rfl) (fun _ _ _ h => h) (Or.inl ⟨by kernel_rfl, by intro w hSw; (try dsimp only at hSw); go_simp; try with_reducible rfl⟩) (by assumption) ?_
      simp only [Act.put, List.setIfInBounds_toArray, List.set_cons_zero, List.set_cons_succ]
      refine wpAnyH_take (i := 7) (oi := ⟨some 46, _, _, _, _, _⟩) (v := _) rfl (by kernel_rfl) (by kernel_rfl) (by kernel_rfl) (fun _ _ _ h => h) (Or.inl ⟨by kernel_rfl, by intro w hSw; (try dsimp only at hSw); go_simp; try with_reducible rfl⟩) (by assumption) ?_
      simp only [Act.put, List.setIfInBounds_toArray, List.set_cons_zero, List.set_cons_succ]
      refine wpAnyH_take (i := 8) (oi := ⟨some 47, _, _, _, _, _⟩) (v := _) rfl (by kernel_rfl) (by kernel_rfl) (by kernel_rfl) (fun _ _ _ h => h) (Or.inl ⟨by kernel_rfl, by intro w hSw; (try dsimp only at hSw); go_simp; try with_reducible rfl⟩) (by assumption) ?_
      simp only [Act.put, List.setIfInBounds_toArray, List.set_cons_zero, List.set_cons_succ]
      refine wpAnyH_take (i := 9) (oi := ⟨some 48, _, _, _, _, _⟩) (v := _) rfl (by kernel_rfl) (by kernel_rfl) (by kernel_rfl) (fun _ _ _ h => h) (Or.inl ⟨by kernel_rfl, by intro w hSw; (try dsimp only at hSw); go_simp; try with_reducible rfl⟩) (by assumption) ?_
      simp only [Act.put, List.setIfInBounds_toArray, List.set_cons_zero, List.set_cons_succ]
      refine wpAnyH_take (i := 10) (oi := ⟨some 49, _, _, _, _, _⟩) (v := _) rfl (by kernel_rfl) (by kernel_rfl) (by kernel_rfl) (fun _ _ _ h => h) (Or.inl ⟨by kernel_rfl, by intro w hSw; (try dsimp only at hSw); go_simp; try with_reducible rfl⟩) (by assumption) ?_
      simp only [Act.put, List.setIfInBounds_toArray, List.set_cons_zero, List.set_cons_succ]
      refine wpAnyH_ready (rs := [11]) (by kernel_rfl) (by simp) ?_
      refine AllReadyH.cons (o := ⟨none, _, _, _, _, _⟩) rfl (fun K hK => ?_) AllReadyH.nil
      go_simp
      refine hK.out _ _ ?_ (fun hHeld2 => ?_)
      · (first | (try dsimp only); go_keep | (go_split_ands; refine ⟨?_, ?_, ?_⟩ <;> first | assumption))
      clear hK K hHeld
      have hHeld := hHeld2
      clear hHeld2
      try simp only [Act.put, List.setIfInBounds_toArray, List.set_cons_zero, List.set_cons_succ]
      refine wpAnyH_take (i := 12) (oi := ⟨some 3, _, _, _, _, _⟩) (v := _) rfl (by kernel_rfl) (by kernel_rfl) (by kernel_rfl) (fun _ _ _ h => h) (Or.inl ⟨by kernel_rfl, by intro w hSw; (try dsimp only at hSw); go_simp; try with_reducible rfl⟩) (by assumption) ?_
      simp only [Act.put, List.setIfInBounds_toArray, List.set_cons_zero, List.set_cons_succ]
      refine wpAnyH_done (by kernel_rfl) ?_ _
      clear hHeld
      go_wp2
      refine bodyPost_ret (v := .tuple #[.agg #[.int .i64 0, .int .i64 x0, .int .i64 0, .int .i64 x1, .int .i64 0, .int .i64 x2, .int .i64 0], .bool true]) (by simp [results, Tryz.results91, go_sem, *]) rfl ?_
      exact ⟨(below7 HBB.out (Nat.le_refl _) _ _ _ _ _ _ _).drew, .inr ⟨0, x0, 0, x1, 0, x2, 0, HKK.out, by omega, by intro x hx; simp only [List.mem_cons, List.not_mem_nil, or_false] at hx; omega, rfl⟩⟩
    have q00 : (z0.toList == [114, 101, 101, 108]) = false ∨ ((z0.toList == [114, 101, 101, 108]) = true ∧ ((ns.length : Int) == 3) = false) := by
      by_cases hw : w0 = [114, 101, 101, 108]
      · exact .inr ⟨by rw [HZZ.out, hw]; rfl, beq_f fun e => hk0 ⟨hw, by omega⟩⟩
      · exact .inl (by rw [HZZ.out]; exact beq_false_of_ne hw)
    have hk0' : ¬ (w0 = wrd 0 ∧ ns.length = 3) := hk0
    by_cases hk1 : w0 = [100, 101, 102, 101, 99, 116] ∧ ns.length = 6
    · have q0 : (z0.toList == [100, 101, 102, 101, 99, 116]) = true := by rw [HZZ.out, hk1.1]; rfl
      have q1 : z0.toList = [100, 101, 102, 101, 99, 116] := by rw [HZZ.out, hk1.1]
      have e0 : ((ns.length : Int) == 6) = true := beq_t (by omega)
      have hkk := HOK.out 1 (by rw [hk1.1, hk1.2]; rfl)
      obtain ⟨x0, x1, x2, x3, x4, x5, rfl⟩ : ∃ x0 x1 x2 x3 x4 x5 : Int, ns = [x0, x1, x2, x3, x4, x5] := len6 hk1.2
      have h0 : 0 ≤ x0 ∧ x0 ≤ 999999 := HNN.out 0 (by simp)
      have h1 : 0 ≤ x1 ∧ x1 ≤ 999999 := HNN.out 1 (by simp)
      have h2 : 0 ≤ x2 ∧ x2 ≤ 999999 := HNN.out 2 (by simp)
      have h3 : 0 ≤ x3 ∧ x3 ≤ 999999 := HNN.out 3 (by simp)
      have h4 : 0 ≤ x4 ∧ x4 ≤ 999999 := HNN.out 4 (by simp)
      have h5 : 0 ≤ x5 ∧ x5 ≤ 999999 := HNN.out 5 (by simp)
      obtain ⟨bn, on, hAn, hbn1, _, d0, _⟩ := HON.out.ints.cell (k := 0) (by simp)
      subst hAn
      have hne1 : ¬ bn = w.heap.size := by omega
      have hne2 : ¬ w.heap.size = bn := by omega
      have d1 := HON.out.ints.cell' (k := 1) (by simp)
      have d2 := HON.out.ints.cell' (k := 2) (by simp)
      have d3 := HON.out.ints.cell' (k := 3) (by simp)
      have d4 := HON.out.ints.cell' (k := 4) (by simp)
      have d5 := HON.out.ints.cell' (k := 5) (by simp)
      replace d0 : wo.cell? ⟨bn, on + 0, none⟩ = some (.int .i64 x0) := d0
      replace d1 : wo.cell? ⟨bn, on + 1, none⟩ = some (.int .i64 x1) := d1
      replace d2 : wo.cell? ⟨bn, on + 2, none⟩ = some (.int .i64 x2) := d2
      replace d3 : wo.cell? ⟨bn, on + 3, none⟩ = some (.int .i64 x3) := d3
      replace d4 : wo.cell? ⟨bn, on + 4, none⟩ = some (.int .i64 x4) := d4
      replace d5 : wo.cell? ⟨bn, on + 5, none⟩ = some (.int .i64 x5) := d5
      replace d0 : wo.cell? ⟨bn, on, none⟩ = some (.int .i64 x0) := d0
      have HKK := Lib.hid (show parE l = some [1, x0, x1, x2, x3, x4, x5] from hkk)
      clear hkk HOK HNO hk1
      go_wp2
      refine wp_region_held_drew (S := fun w' => w'.cell? ⟨bn, on, none⟩ = some (.int .i64 x0) ∧ w'.cell? ⟨bn, on + 1, none⟩ = some (.int .i64 x1) ∧ w'.cell? ⟨bn, on + 2, none⟩ = some (.int .i64 x2) ∧ w'.cell? ⟨bn, on + 3, none⟩ = some (.int .i64 x3) ∧ w'.cell? ⟨bn, on + 4, none⟩ = some (.int .i64 x4) ∧ w'.cell? ⟨bn, on + 5, none⟩ = some (.int .i64 x5)) (by kernel_rfl) ?_ (fun hHeld => ?_)
      · (first | (try dsimp only); go_keep | (go_split_ands; refine ⟨?_, ?_, ?_, ?_, ?_, ?_⟩ <;> first | assumption))
      refine wpAnyH_take (i := 0) (oi := ⟨some 60, _, _, _, _, _⟩) (v := _) rfl (by kernel_rfl) (by kernel_rfl) (by kernel_rfl) (fun _ _ _ h => h) (Or.inl ⟨by kernel_rfl, by intro w hSw; (try dsimp only at hSw); go_simp; try with_reducible rfl⟩) (by assumption) ?_
      simp only [Act.put, List.setIfInBounds_toArray, List.set_cons_zero, List.set_cons_succ]
      refine wpAnyH_take (i := 1) (oi := ⟨some 61, _, _, _, _, _⟩) (v := _) rfl (by kernel_rfl) (by kernel_rfl) (by kernel_rfl) (fun _ _ _ h => h) (Or.inl ⟨by kernel_rfl, by intro w hSw; (try dsimp only at hSw); go_simp; try with_reducible rfl⟩) (by assumption) ?_
      simp only [Act.put, List.setIfInBounds_toArray, List.set_cons_zero, List.set_cons_succ]
      refine wpAnyH_take (i := 2) (oi := ⟨some 62, _, _, _, _, _⟩) (v := _) rfl (by kernel_rfl) (by kernel_rfl) (by kernel_rfl) (fun _ _ _ h => h) (Or.inl ⟨by kernel_rfl, by intro w hSw; (try dsimp only at hSw); go_simp; try with_reducible rfl⟩) (by assumption) ?_
      simp only [Act.put, List.setIfInBounds_toArray, List.set_cons_zero, List.set_cons_succ]
      refine wpAnyH_take (i := 3) (oi := ⟨some 63, _, _, _, _, _⟩) (v := _) rfl (by kernel_rfl) (by kernel_rfl) (by kernel_rfl) (fun _ _ _ h => h) (Or.inl ⟨by kernel_rfl, by intro w hSw; (try dsimp only at hSw); go_simp; try with_reducible rfl⟩) (by assumption) ?_
      simp only [Act.put, List.setIfInBounds_toArray, List.set_cons_zero, List.set_cons_succ]
      refine wpAnyH_take (i := 4) (oi := ⟨some 64, _, _, _, _, _⟩) (v := _) rfl (by kernel_rfl) (by kernel_rfl) (by kernel_rfl) (fun _ _ _ h => h) (Or.inl ⟨by kernel_rfl, by intro w hSw; (try dsimp only at hSw); go_simp; try with_reducible rfl⟩) (by assumption) ?_
      simp only [Act.put, List.setIfInBounds_toArray, List.set_cons_zero, List.set_cons_succ]
      refine wpAnyH_take (i := 5) (oi := ⟨some 65, _, _, _, _, _⟩) (v := _) rfl (by kernel_rfl) (by kernel_rfl) (by kernel_rfl) (fun _ _ _ h => h) (Or.inl ⟨by kernel_rfl, by intro w hSw; (try dsimp only at hSw); go_simp; try with_reducible rfl⟩) (by assumption) ?_
      simp only [Act.put, List.setIfInBounds_toArray, List.set_cons_zero, List.set_cons_succ]
      refine wpAnyH_take (i := 6) (oi := ⟨some 66, _, _, _, _, _⟩) (v := _) rfl (by kernel_rfl) (by kernel_rfl) (by kernel_rfl) (fun _ _ _ h => h) (Or.inl ⟨by kernel_rfl, by intro w hSw; (try dsimp only at hSw); go_simp; try with_reducible rfl⟩) (by assumption) ?_
      simp only [Act.put, List.setIfInBounds_toArray, List.set_cons_zero, List.set_cons_succ]
      refine wpAnyH_take (i := 7) (oi := ⟨some 67, _, _, _, _, _⟩) (v := _) rfl (by kernel_rfl) (by kernel_rfl) (by kernel_rfl) (fun _ _ _ h => h) (Or.inl ⟨by kernel_rfl, by intro w hSw; (try dsimp only at hSw); go_simp; try with_reducible rfl⟩) (by assumption) ?_
      simp only [Act.put, List.setIfInBounds_toArray, List.set_cons_zero, List.set_cons_succ]
      refine wpAnyH_take (i := 8) (oi := ⟨some 68, _, _, _, _, _⟩) (v := _) rfl (by kernel_rfl) (by kernel_rfl) (by kernel_rfl) (fun _ _ _ h => h) (Or.inl ⟨by kernel_rfl, by intro w hSw; (try dsimp only at hSw); go_simp; try with_reducible rfl⟩) (by assumption) ?_
      simp only [Act.put, List.setIfInBounds_toArray, List.set_cons_zero, List.set_cons_succ]
      refine wpAnyH_take (i := 9) (oi := ⟨some 69, _, _, _, _, _⟩) (v := _) rfl (by kernel_rfl) (by kernel_rfl) (by kernel_rfl) (fun _ _ _ h => h) (Or.inl ⟨by kernel_rfl, by intro w hSw; (try dsimp only at hSw); go_simp; try with_reducible rfl⟩) (by assumption) ?_
      simp only [Act.put, List.setIfInBounds_toArray, List.set_cons_zero, List.set_cons_succ]
      refine wpAnyH_take (i := 10) (oi := ⟨some 70, _, _, _, _, _⟩) (v := _) rfl (by kernel_rfl) (by kernel_rfl) (by kernel_rfl) (fun _ _ _ h => h) (Or.inl ⟨by kernel_rfl, by intro w hSw; (try dsimp only at hSw); go_simp; try with_reducible rfl⟩) (by assumption) ?_
      simp only [Act.put, List.setIfInBounds_toArray, List.set_cons_zero, List.set_cons_succ]
      refine wpAnyH_take (i := 11) (oi := ⟨some 71, _, _, _, _, _⟩) (v := _) rfl (by kernel_rfl) (by kernel_rfl) (by kernel_rfl) (fun _ _ _ h => h) (Or.inl ⟨by kernel_rfl, by intro w hSw; (try dsimp only at hSw); go_simp; try with_reducible rfl⟩) (by assumption) ?_
      simp only [Act.put, List.setIfInBounds_toArray, List.set_cons_zero, List.set_cons_succ]
      refine wpAnyH_take (i := 12) (oi := ⟨some 72, _, _, _, _, _⟩) (v := _) rfl (by kernel_rfl) (by kernel_rfl) (by kernel_rfl) (fun _ _ _ h => h) (Or.inl ⟨by kernel_rfl, by intro w hSw; (try dsimp only at hSw); go_simp; try with_reducible rfl⟩) (by assumption) ?_
      simp only [Act.put, List.setIfInBounds_toArray, List.set_cons_zero, List.set_cons_succ]
      refine wpAnyH_take (i := 13) (oi := ⟨some 73, _, _, _, _, _⟩) (v := _) rfl (by kernel_rfl) (by kernel_rfl) (by kernel_rfl) (fun _ _ _ h => h) (Or.inl ⟨by kernel_rfl, by intro w hSw; (try dsimp only at hSw); go_simp; try with_reducible rfl⟩) (by assumption) ?_
      simp only [Act.put, List.setIfInBounds_toArray, List.set_cons_zero, List.set_cons_succ]
      refine wpAnyH_take (i := 14) (oi := ⟨some 74, _, _, _, _, _⟩) (v := _) rfl (by kernel_rfl) (by kernel_rfl) (by kernel_rfl) (fun _ _ _ h => h) (Or.inl ⟨by kernel_rfl, by intro w hSw; (try dsimp only at hSw); go_simp; try with_reducible rfl⟩) (by assumption) ?_
      simp only [Act.put, List.setIfInBounds_toArray, List.set_cons_zero, List.set_cons_succ]
      refine wpAnyH_take (i := 15) (oi := ⟨some 75, _, _, _, _, _⟩) (v := _) rfl (by kernel_rfl) (by kernel_rfl) (by kernel_rfl) (fun _ _ _ h => h) (Or.inl ⟨by kernel_rfl, by intro w hSw; (try dsimp only at hSw); go_simp; try with_reducible rfl⟩) (by assumption) ?_
      simp only [Act.put, List.setIfInBounds_toArray, List.set_cons_zero, List.set_cons_succ]
      refine wpAnyH_take (i := 16) (oi := ⟨some 76, _, _, _, _, _⟩) (v := _) rfl (by kernel_rfl) (by kernel_rfl) (by kernel_rfl) (fun _ _ _ h => h) (Or.inl ⟨by kernel_rfl, by intro w hSw; (try dsimp only at hSw); go_simp; try with_reducible rfl⟩) (by assumption) ?_
      simp only [Act.put, List.setIfInBounds_toArray, List.set_cons_zero, List.set_cons_succ]
      refine wpAnyH_take (i := 17) (oi := ⟨some 77, _, _, _, _, _⟩) (v := _) rfl (by kernel_rfl) (by kernel_rfl) (by kernel_rfl) (fun _ _ _ h => h) (Or.inl ⟨by kernel_rfl, by intro w hSw; (try dsimp only at hSw); go_simp; try with_reducible rfl⟩) (by assumption) ?_
      simp only [Act.put, List.setIfInBounds_toArray, List.set_cons_zero, List.set_cons_succ]
      refine wpAnyH_take (i := 18) (oi := ⟨some 78, _, _, _, _, _⟩) (v := _) rfl (by kernel_rfl) (by kernel_rfl) (by kernel_rfl) (fun _ _ _ h => h) (Or.inl ⟨by kernel_rfl, by intro w hSw; (try dsimp only at hSw); go_simp; try with_reducible rfl⟩) (by assumption) ?_
      simp only [Act.put, List.setIfInBounds_toArray, List.set_cons_zero, List.set_cons_succ]
      refine wpAnyH_take (i := 19) (oi := ⟨some 79, _, _, _, _, _⟩) (v := _) rfl (by kernel_rfl) (by kernel_rfl) (by kernel_rfl) (fun _ _ _ h => h) (Or.inl ⟨by kernel_rfl, by intro w hSw; (try dsimp only at hSw); go_simp; try with_reducible rfl⟩) (by assumption) ?_
      simp only [Act.put, List.setIfInBounds_toArray, List.set_cons_zero, List.set_cons_succ]
      refine wpAnyH_ready (rs := [20]) (by kernel_rfl) (by simp) ?_
      refine AllReadyH.cons (o := ⟨none, _, _, _, _, _⟩) rfl (fun K hK => ?_) AllReadyH.nil
      go_simp
      refine hK.out _ _ ?_ (fun hHeld2 => ?_)
      · (first | (try dsimp only); go_keep | (go_split_ands; refine ⟨?_, ?_, ?_, ?_, ?_, ?_⟩ <;> first | assumption))
      clear hK K hHeld
      have hHeld := hHeld2
      clear hHeld2
      try simp only [Act.put, List.setIfInBounds_toArray, List.set_cons_zero, List.set_cons_succ]
      refine wpAnyH_take (i := 21) (oi := ⟨some 3, _, _, _, _, _⟩) (v := _) rfl (by kernel_rfl) (by kernel_rfl) (by kernel_rfl) (fun _ _ _ h => h) (Or.inl ⟨by kernel_rfl, by intro w hSw; (try dsimp only at hSw); go_simp; try with_reducible rfl⟩) (by assumption) ?_
      simp only [Act.put, List.setIfInBounds_toArray, List.set_cons_zero, List.set_cons_succ]
      refine wpAnyH_done (by kernel_rfl) ?_ _
      clear hHeld
      go_wp2
      refine bodyPost_ret (v := .tuple #[.agg #[.int .i64 1, .int .i64 x0, .int .i64 x1, .int .i64 x2, .int .i64 x3, .int .i64 x4, .int .i64 x5], .bool true]) (by simp [results, Tryz.results91, go_sem, *]) rfl ?_
      exact ⟨(below7 HBB.out (Nat.le_refl _) _ _ _ _ _ _ _).drew, .inr ⟨1, x0, x1, x2, x3, x4, x5, HKK.out, by omega, by intro x hx; simp only [List.mem_cons, List.not_mem_nil, or_false] at hx; omega, rfl⟩⟩
    have q10 : (z0.toList == [100, 101, 102, 101, 99, 116]) = false ∨ ((z0.toList == [100, 101, 102, 101, 99, 116]) = true ∧ ((ns.length : Int) == 6) = false) := by
      by_cases hw : w0 = [100, 101, 102, 101, 99, 116]
      · exact .inr ⟨by rw [HZZ.out, hw]; rfl, beq_f fun e => hk1 ⟨hw, by omega⟩⟩
      · exact .inl (by rw [HZZ.out]; exact beq_false_of_ne hw)
    have hk1' : ¬ (w0 = wrd 1 ∧ ns.length = 6) := hk1
    by_cases hk2 : w0 = [99, 117, 116] ∧ ns.length = 5
    · have q0 : (z0.toList == [99, 117, 116]) = true := by rw [HZZ.out, hk2.1]; rfl
      have q1 : z0.toList = [99, 117, 116] := by rw [HZZ.out, hk2.1]
      have e0 : ((ns.length : Int) == 5) = true := beq_t (by omega)
      have hkk := HOK.out 2 (by rw [hk2.1, hk2.2]; rfl)
      obtain ⟨x0, x1, x2, x3, x4, rfl⟩ : ∃ x0 x1 x2 x3 x4 : Int, ns = [x0, x1, x2, x3, x4] := len5 hk2.2
      have h0 : 0 ≤ x0 ∧ x0 ≤ 999999 := HNN.out 0 (by simp)
      have h1 : 0 ≤ x1 ∧ x1 ≤ 999999 := HNN.out 1 (by simp)
      have h2 : 0 ≤ x2 ∧ x2 ≤ 999999 := HNN.out 2 (by simp)
      have h3 : 0 ≤ x3 ∧ x3 ≤ 999999 := HNN.out 3 (by simp)
      have h4 : 0 ≤ x4 ∧ x4 ≤ 999999 := HNN.out 4 (by simp)
      obtain ⟨bn, on, hAn, hbn1, _, d0, _⟩ := HON.out.ints.cell (k := 0) (by simp)
      subst hAn
      have hne1 : ¬ bn = w.heap.size := by omega
      have hne2 : ¬ w.heap.size = bn := by omega
      have d1 := HON.out.ints.cell' (k := 1) (by simp)
      have d2 := HON.out.ints.cell' (k := 2) (by simp)
      have d3 := HON.out.ints.cell' (k := 3) (by simp)
      have d4 := HON.out.ints.cell' (k := 4) (by simp)
      replace d0 : wo.cell? ⟨bn, on + 0, none⟩ = some (.int .i64 x0) := d0
      replace d1 : wo.cell? ⟨bn, on + 1, none⟩ = some (.int .i64 x1) := d1
      replace d2 : wo.cell? ⟨bn, on + 2, none⟩ = some (.int .i64 x2) := d2
      replace d3 : wo.cell? ⟨bn, on + 3, none⟩ = some (.int .i64 x3) := d3
      replace d4 : wo.cell? ⟨bn, on + 4, none⟩ = some (.int .i64 x4) := d4
      replace d0 : wo.cell? ⟨bn, on, none⟩ = some (.int .i64 x0) := d0
      have HKK := Lib.hid (show parE l = some [2, x0, x1, x2, x3, x4, 0] from hkk)
      clear hkk HOK HNO hk2
      go_wp2
      refine wp_region_held_drew (S := fun w' => w'.cell? ⟨bn, on, none⟩ = some (.int .i64 x0) ∧ w'.cell? ⟨bn, on + 1, none⟩ = some (.int .i64 x1) ∧ w'.cell? ⟨bn, on + 2, none⟩ = some (.int .i64 x2) ∧ w'.cell? ⟨bn, on + 3, none⟩ = some (.int .i64 x3) ∧ w'.cell? ⟨bn, on + 4, none⟩ = some (.int .i64 x4)) (by kernel_rfl) ?_ (fun hHeld => ?_)
      · (first | (try dsimp only); go_keep | (go_split_ands; refine ⟨?_, ?_, ?_, ?_, ?_⟩ <;> first | assumption))
      refine wpAnyH_take (i := 0) (oi := ⟨some 90, _, _, _, _, _⟩) (v := _) rfl (by kernel_rfl) (by kernel_rfl) (by kernel_rfl) (fun _ _ _ h => h) (Or.inl ⟨by kernel_rfl, by intro w hSw; (try dsimp only at hSw); go_simp; try with_reducible rfl⟩) (by assumption) ?_
      simp only [Act.put, List.setIfInBounds_toArray, List.set_cons_zero, List.set_cons_succ]
      refine wpAnyH_take (i := 1) (oi := ⟨some 91, _, _, _, _, _⟩) (v := _) rfl (by kernel_rfl) (by kernel_rfl) (by kernel_rfl) (fun _ _ _ h => h) (Or.inl ⟨by kernel_rfl, by intro w hSw; (try dsimp only at hSw); go_simp; try with_reducible rfl⟩) (by assumption) ?_
      simp only [Act.put, List.setIfInBounds_toArray, List.set_cons_zero, List.set_cons_succ]
      refine wpAnyH_take (i := 2) (oi := ⟨some 92, _, _, _, _, _⟩) (v := _) rfl (by kernel_rfl) (by kernel_rfl) (by kernel_rfl) (fun _ _ _ h => h) (Or.inl ⟨by kernel_rfl, by intro w hSw; (try dsimp only at hSw); go_simp; try with_reducible rfl⟩) (by assumption) ?_
      simp only [Act.put, List.setIfInBounds_toArray, List.set_cons_zero, List.set_cons_succ]
      refine wpAnyH_take (i := 3) (oi := ⟨some 93, _, _, _, _, _⟩) (v := _) rfl (by kernel_rfl) (by kernel_rfl) (by kernel_rfl) (fun _ _ _ h => h) (Or.inl ⟨by kernel_rfl, by intro w hSw; (try dsimp only at hSw); go_simp; try with_reducible rfl⟩) (by assumption) ?_
      simp only [Act.put, List.setIfInBounds_toArray, List.set_cons_zero, List.set_cons_succ]
      refine wpAnyH_take (i := 4) (oi := ⟨some 94, _, _, _, _, _⟩) (v := _) rfl (by kernel_rfl) (by kernel_rfl) (by kernel_rfl) (fun _ _ _ h => h) (Or.inl ⟨by kernel_rfl, by intro w hSw; (try dsimp only at hSw); go_simp; try with_reducible rfl⟩) (by assumption) ?_
      simp only [Act.put, List.setIfInBounds_toArray, List.set_cons_zero, List.set_cons_succ]
      refine wpAnyH_take (i := 5) (oi := ⟨some 95, _, _, _, _, _⟩) (v := _) rfl (by kernel_rfl) (by kernel_rfl) (by kernel_rfl) (fun _ _ _ h => h) (Or.inl ⟨by kernel_rfl, by intro w hSw; (try dsimp only at hSw); go_simp; try with_reducible rfl⟩) (by assumption) ?_
      simp only [Act.put, List.setIfInBounds_toArray, List.set_cons_zero, List.set_cons_succ]
      refine wpAnyH_take (i := 6) (oi := ⟨some 96, _, _, _, _, _⟩) (v := _) rfl (by kernel_rfl) (by kernel_rfl) (by kernel_rfl) (fun _ _ _ h => h) (Or.inl ⟨by kernel_rfl, by intro w hSw; (try dsimp only at hSw); go_simp; try with_reducible rfl⟩) (by assumption) ?_
      simp only [Act.put, List.setIfInBounds_toArray, List.set_cons_zero, List.set_cons_succ]
      refine wpAnyH_take (i := 7) (oi := ⟨some 97, _, _, _, _, _⟩) (v := _) rfl (by kernel_rfl) (by kernel_rfl) (by kernel_rfl) (fun _ _ _ h => h) (Or.inl ⟨by kernel_rfl, by intro w hSw; (try dsimp only at hSw); go_simp; try with_reducible rfl⟩) (by assumption) ?_
      simp only [Act.put, List.setIfInBounds_toArray, List.set_cons_zero, List.set_cons_succ]
      refine wpAnyH_take (i := 8) (oi := ⟨some 98, _, _, _, _, _⟩) (v := _) rfl (by kernel_rfl) (by kernel_rfl) (by kernel_rfl) (fun _ _ _ h => h) (Or.inl ⟨by kernel_rfl, by intro w hSw; (try dsimp only at hSw); go_simp; try with_reducible rfl⟩) (by assumption) ?_
      simp only [Act.put, List.setIfInBounds_toArray, List.set_cons_zero, List.set_cons_succ]
      refine wpAnyH_take (i := 9) (oi := ⟨some 99, _, _, _, _, _⟩) (v := _) rfl (by kernel_rfl) (by kernel_rfl) (by kernel_rfl) (fun _ _ _ h => h) (Or.inl ⟨by kernel_rfl, by intro w hSw; (try dsimp only at hSw); go_simp; try with_reducible rfl⟩) (by assumption) ?_
      simp only [Act.put, List.setIfInBounds_toArray, List.set_cons_zero, List.set_cons_succ]
      refine wpAnyH_take (i := 10) (oi := ⟨some 100, _, _, _, _, _⟩) (v := _) rfl (by kernel_rfl) (by kernel_rfl) (by kernel_rfl) (fun _ _ _ h => h) (Or.inl ⟨by kernel_rfl, by intro w hSw; (try dsimp only at hSw); go_simp; try with_reducible rfl⟩) (by assumption) ?_
      simp only [Act.put, List.setIfInBounds_toArray, List.set_cons_zero, List.set_cons_succ]
      refine wpAnyH_take (i := 11) (oi := ⟨some 101, _, _, _, _, _⟩) (v := _) rfl (by kernel_rfl) (by kernel_rfl) (by kernel_rfl) (fun _ _ _ h => h) (Or.inl ⟨by kernel_rfl, by intro w hSw; (try dsimp only at hSw); go_simp; try with_reducible rfl⟩) (by assumption) ?_
      simp only [Act.put, List.setIfInBounds_toArray, List.set_cons_zero, List.set_cons_succ]
      refine wpAnyH_take (i := 12) (oi := ⟨some 102, _, _, _, _, _⟩) (v := _) rfl (by kernel_rfl) (by kernel_rfl) (by kernel_rfl) (fun _ _ _ h => h) (Or.inl ⟨by kernel_rfl, by intro w hSw; (try dsimp only at hSw); go_simp; try with_reducible rfl⟩) (by assumption) ?_
      simp only [Act.put, List.setIfInBounds_toArray, List.set_cons_zero, List.set_cons_succ]
      refine wpAnyH_take (i := 13) (oi := ⟨some 103, _, _, _, _, _⟩) (v := _) rfl (by kernel_rfl) (by kernel_rfl) (by kernel_rfl) (fun _ _ _ h => h) (Or.inl ⟨by kernel_rfl, by intro w hSw; (try dsimp only at hSw); go_simp; try with_reducible rfl⟩) (by assumption) ?_
      simp only [Act.put, List.setIfInBounds_toArray, List.set_cons_zero, List.set_cons_succ]
      refine wpAnyH_take (i := 14) (oi := ⟨some 104, _, _, _, _, _⟩) (v := _) rfl (by kernel_rfl) (by kernel_rfl) (by kernel_rfl) (fun _ _ _ h => h) (Or.inl ⟨by kernel_rfl, by intro w hSw; (try dsimp only at hSw); go_simp; try with_reducible rfl⟩) (by assumption) ?_
      simp only [Act.put, List.setIfInBounds_toArray, List.set_cons_zero, List.set_cons_succ]
      refine wpAnyH_take (i := 15) (oi := ⟨some 105, _, _, _, _, _⟩) (v := _) rfl (by kernel_rfl) (by kernel_rfl) (by kernel_rfl) (fun _ _ _ h => h) (Or.inl ⟨by kernel_rfl, by intro w hSw; (try dsimp only at hSw); go_simp; try with_reducible rfl⟩) (by assumption) ?_
      simp only [Act.put, List.setIfInBounds_toArray, List.set_cons_zero, List.set_cons_succ]
      refine wpAnyH_take (i := 16) (oi := ⟨some 106, _, _, _, _, _⟩) (v := _) rfl (by kernel_rfl) (by kernel_rfl) (by kernel_rfl) (fun _ _ _ h => h) (Or.inl ⟨by kernel_rfl, by intro w hSw; (try dsimp only at hSw); go_simp; try with_reducible rfl⟩) (by assumption) ?_
      simp only [Act.put, List.setIfInBounds_toArray, List.set_cons_zero, List.set_cons_succ]
      refine wpAnyH_ready (rs := [17]) (by kernel_rfl) (by simp) ?_
      refine AllReadyH.cons (o := ⟨none, _, _, _, _, _⟩) rfl (fun K hK => ?_) AllReadyH.nil
      go_simp
      refine hK.out _ _ ?_ (fun hHeld2 => ?_)
      · (first | (try dsimp only); go_keep | (go_split_ands; refine ⟨?_, ?_, ?_, ?_, ?_⟩ <;> first | assumption))
      clear hK K hHeld
      have hHeld := hHeld2
      clear hHeld2
      try simp only [Act.put, List.setIfInBounds_toArray, List.set_cons_zero, List.set_cons_succ]
      refine wpAnyH_take (i := 18) (oi := ⟨some 3, _, _, _, _, _⟩) (v := _) rfl (by kernel_rfl) (by kernel_rfl) (by kernel_rfl) (fun _ _ _ h => h) (Or.inl ⟨by kernel_rfl, by intro w hSw; (try dsimp only at hSw); go_simp; try with_reducible rfl⟩) (by assumption) ?_
      simp only [Act.put, List.setIfInBounds_toArray, List.set_cons_zero, List.set_cons_succ]
      refine wpAnyH_done (by kernel_rfl) ?_ _
      clear hHeld
      go_wp2
      refine bodyPost_ret (v := .tuple #[.agg #[.int .i64 2, .int .i64 x0, .int .i64 x1, .int .i64 x2, .int .i64 x3, .int .i64 x4, .int .i64 0], .bool true]) (by simp [results, Tryz.results91, go_sem, *]) rfl ?_
      exact ⟨(below7 HBB.out (Nat.le_refl _) _ _ _ _ _ _ _).drew, .inr ⟨2, x0, x1, x2, x3, x4, 0, HKK.out, by omega, by intro x hx; simp only [List.mem_cons, List.not_mem_nil, or_false] at hx; omega, rfl⟩⟩
    have q20 : (z0.toList == [99, 117, 116]) = false ∨ ((z0.toList == [99, 117, 116]) = true ∧ ((ns.length : Int) == 5) = false) := by
      by_cases hw : w0 = [99, 117, 116]
      · exact .inr ⟨by rw [HZZ.out, hw]; rfl, beq_f fun e => hk2 ⟨hw, by omega⟩⟩
      · exact .inl (by rw [HZZ.out]; exact beq_false_of_ne hw)
    have hk2' : ¬ (w0 = wrd 2 ∧ ns.length = 5) := hk2
    by_cases hk3 : w0 = [115, 104, 105, 112] ∧ ns.length = 2
    · have q0 : (z0.toList == [115, 104, 105, 112]) = true := by rw [HZZ.out, hk3.1]; rfl
      have q1 : z0.toList = [115, 104, 105, 112] := by rw [HZZ.out, hk3.1]
      have e0 : ((ns.length : Int) == 2) = true := beq_t (by omega)
      have hkk := HOK.out 3 (by rw [hk3.1, hk3.2]; rfl)
      obtain ⟨x0, x1, rfl⟩ : ∃ x0 x1 : Int, ns = [x0, x1] := len2 hk3.2
      have h0 : 0 ≤ x0 ∧ x0 ≤ 999999 := HNN.out 0 (by simp)
      have h1 : 0 ≤ x1 ∧ x1 ≤ 999999 := HNN.out 1 (by simp)
      obtain ⟨bn, on, hAn, hbn1, _, d0, _⟩ := HON.out.ints.cell (k := 0) (by simp)
      subst hAn
      have hne1 : ¬ bn = w.heap.size := by omega
      have hne2 : ¬ w.heap.size = bn := by omega
      have d1 := HON.out.ints.cell' (k := 1) (by simp)
      replace d0 : wo.cell? ⟨bn, on + 0, none⟩ = some (.int .i64 x0) := d0
      replace d1 : wo.cell? ⟨bn, on + 1, none⟩ = some (.int .i64 x1) := d1
      replace d0 : wo.cell? ⟨bn, on, none⟩ = some (.int .i64 x0) := d0
      have HKK := Lib.hid (show parE l = some [3, x0, 0, 0, 0, 0, x1] from hkk)
      clear hkk HOK HNO hk3
      go_wp2
      refine wp_region_held_drew (S := fun w' => w'.cell? ⟨bn, on, none⟩ = some (.int .i64 x0) ∧ w'.cell? ⟨bn, on + 1, none⟩ = some (.int .i64 x1)) (by kernel_rfl) ?_ (fun hHeld => ?_)
      · (first | (try dsimp only); go_keep | (go_split_ands; refine ⟨?_, ?_⟩ <;> first | assumption))
      refine wpAnyH_take (i := 0) (oi := ⟨some 117, _, _, _, _, _⟩) (v := _) rfl (by kernel_rfl) (by kernel_rfl) (by kernel_rfl) (fun _ _ _ h => h) (Or.inl ⟨by kernel_rfl, by intro w hSw; (try dsimp only at hSw); go_simp; try with_reducible rfl⟩) (by assumption) ?_
      simp only [Act.put, List.setIfInBounds_toArray, List.set_cons_zero, List.set_cons_succ]
      refine wpAnyH_take (i := 1) (oi := ⟨some 118, _, _, _, _, _⟩) (v := _) rfl (by kernel_rfl) (by kernel_rfl) (by kernel_rfl) (fun _ _ _ h => h) (Or.inl ⟨by kernel_rfl, by intro w hSw; (try dsimp only at hSw); go_simp; try with_reducible rfl⟩) (by assumption) ?_
      simp only [Act.put, List.setIfInBounds_toArray, List.set_cons_zero, List.set_cons_succ]
      refine wpAnyH_take (i := 2) (oi := ⟨some 119, _, _, _, _, _⟩) (v := _) rfl (by kernel_rfl) (by kernel_rfl) (by kernel_rfl) (fun _ _ _ h => h) (Or.inl ⟨by kernel_rfl, by intro w hSw; (try dsimp only at hSw); go_simp; try with_reducible rfl⟩) (by assumption) ?_
      simp only [Act.put, List.setIfInBounds_toArray, List.set_cons_zero, List.set_cons_succ]
      refine wpAnyH_take (i := 3) (oi := ⟨some 120, _, _, _, _, _⟩) (v := _) rfl (by kernel_rfl) (by kernel_rfl) (by kernel_rfl) (fun _ _ _ h => h) (Or.inl ⟨by kernel_rfl, by intro w hSw; (try dsimp only at hSw); go_simp; try with_reducible rfl⟩) (by assumption) ?_
      simp only [Act.put, List.setIfInBounds_toArray, List.set_cons_zero, List.set_cons_succ]
      refine wpAnyH_take (i := 4) (oi := ⟨some 121, _, _, _, _, _⟩) (v := _) rfl (by kernel_rfl) (by kernel_rfl) (by kernel_rfl) (fun _ _ _ h => h) (Or.inl ⟨by kernel_rfl, by intro w hSw; (try dsimp only at hSw); go_simp; try with_reducible rfl⟩) (by assumption) ?_
      simp only [Act.put, List.setIfInBounds_toArray, List.set_cons_zero, List.set_cons_succ]
      refine wpAnyH_take (i := 5) (oi := ⟨some 122, _, _, _, _, _⟩) (v := _) rfl (by kernel_rfl) (by kernel_rfl) (by kernel_rfl) (fun _ _ _ h => h) (Or.inl ⟨by kernel_rfl, by intro w hSw; (try dsimp only at hSw); go_simp; try with_reducible rfl⟩) (by assumption) ?_
      simp only [Act.put, List.setIfInBounds_toArray, List.set_cons_zero, List.set_cons_succ]
      refine wpAnyH_take (i := 6) (oi := ⟨some 123, _, _, _, _, _⟩) (v := _) rfl (by kernel_rfl) (by kernel_rfl) (by kernel_rfl) (fun _ _ _ h => h) (Or.inl ⟨by kernel_rfl, by intro w hSw; (try dsimp only at hSw); go_simp; try with_reducible rfl⟩) (by assumption) ?_
      simp only [Act.put, List.setIfInBounds_toArray, List.set_cons_zero, List.set_cons_succ]
      refine wpAnyH_ready (rs := [7]) (by kernel_rfl) (by simp) ?_
      refine AllReadyH.cons (o := ⟨none, _, _, _, _, _⟩) rfl (fun K hK => ?_) AllReadyH.nil
      go_simp
      refine hK.out _ _ ?_ (fun hHeld2 => ?_)
      · (first | (try dsimp only); go_keep | (go_split_ands; refine ⟨?_, ?_⟩ <;> first | assumption))
      clear hK K hHeld
      have hHeld := hHeld2
      clear hHeld2
      try simp only [Act.put, List.setIfInBounds_toArray, List.set_cons_zero, List.set_cons_succ]
      refine wpAnyH_take (i := 8) (oi := ⟨some 3, _, _, _, _, _⟩) (v := _) rfl (by kernel_rfl) (by kernel_rfl) (by kernel_rfl) (fun _ _ _ h => h) (Or.inl ⟨by kernel_rfl, by intro w hSw; (try dsimp only at hSw); go_simp; try with_reducible rfl⟩) (by assumption) ?_
      simp only [Act.put, List.setIfInBounds_toArray, List.set_cons_zero, List.set_cons_succ]
      refine wpAnyH_done (by kernel_rfl) ?_ _
      clear hHeld
      go_wp2
      refine bodyPost_ret (v := .tuple #[.agg #[.int .i64 3, .int .i64 x0, .int .i64 0, .int .i64 0, .int .i64 0, .int .i64 0, .int .i64 x1], .bool true]) (by simp [results, Tryz.results91, go_sem, *]) rfl ?_
      exact ⟨(below7 HBB.out (Nat.le_refl _) _ _ _ _ _ _ _).drew, .inr ⟨3, x0, 0, 0, 0, 0, x1, HKK.out, by omega, by intro x hx; simp only [List.mem_cons, List.not_mem_nil, or_false] at hx; omega, rfl⟩⟩
    have q30 : (z0.toList == [115, 104, 105, 112]) = false ∨ ((z0.toList == [115, 104, 105, 112]) = true ∧ ((ns.length : Int) == 2) = false) := by
      by_cases hw : w0 = [115, 104, 105, 112]
      · exact .inr ⟨by rw [HZZ.out, hw]; rfl, beq_f fun e => hk3 ⟨hw, by omega⟩⟩
      · exact .inl (by rw [HZZ.out]; exact beq_false_of_ne hw)
    have hk3' : ¬ (w0 = wrd 3 ∧ ns.length = 2) := hk3
    have HN := Lib.hid (HNO.out (by unfold kndT; rw [if_neg hk0', if_neg hk1', if_neg hk2', if_neg hk3']))
    clear HOK HNO hk0 hk1 hk2 hk3 hk0' hk1' hk2' hk3'
    rcases q00 with q00 | ⟨q00, q01⟩ <;> rcases q10 with q10 | ⟨q10, q11⟩ <;> rcases q20 with q20 | ⟨q20, q21⟩ <;> rcases q30 with q30 | ⟨q30, q31⟩
    all_goals go_wp2
    all_goals refine bodyPost_ret (v := .tuple #[EvZ, .bool false]) (by simp [results, EvZ, Tryz.results91, go_sem, *]) rfl ?_
    all_goals exact ⟨below7 HBB.out (Nat.le_refl _) _ _ _ _ _ _ _, .inl ⟨HN.out, rfl⟩⟩
end Go.Proofs.YtkgepklapglmdaaGreatDoor


namespace Go.Proofs.YtkgepklapglmdaaGreatDoor
open Go.RowKit
attribute [local go_sem ↓] Go.wp_at_zero Go.wp_at_succ

theorem kndT_at {w0 : List UInt8} {n m : Nat} (hm : m < 4) (hno : ∀ i : Nat, i < m → ¬ (w0 = wrd (i : Int) ∧ n = (idxK (i : Int)).length)) (hy : w0 = wrd (m : Int) ∧ n = (idxK (m : Int)).length) : kndT w0 n = some (m : Int) := by
  obtain rfl | rfl | rfl | rfl : m = 0 ∨ m = 1 ∨ m = 2 ∨ m = 3 := by omega
  · unfold kndT; rw [if_pos (show w0 = wrd 0 ∧ n = 3 from hy)]; rfl
  · unfold kndT; rw [if_neg (show ¬ (w0 = wrd 0 ∧ n = 3) from hno 0 (by omega)), if_pos (show w0 = wrd 1 ∧ n = 6 from hy)]; rfl
  · unfold kndT; rw [if_neg (show ¬ (w0 = wrd 0 ∧ n = 3) from hno 0 (by omega)), if_neg (show ¬ (w0 = wrd 1 ∧ n = 6) from hno 1 (by omega)), if_pos (show w0 = wrd 2 ∧ n = 5 from hy)]; rfl
  · unfold kndT; rw [if_neg (show ¬ (w0 = wrd 0 ∧ n = 3) from hno 0 (by omega)), if_neg (show ¬ (w0 = wrd 1 ∧ n = 6) from hno 1 (by omega)), if_neg (show ¬ (w0 = wrd 2 ∧ n = 5) from hno 2 (by omega)), if_pos (show w0 = wrd 3 ∧ n = 2 from hy)]; rfl
theorem kndT_non {w0 : List UInt8} {n : Nat} (hno : ∀ i : Nat, i < 4 → ¬ (w0 = wrd (i : Int) ∧ n = (idxK (i : Int)).length)) : kndT w0 n = none := by
  unfold kndT
  rw [if_neg (show ¬ (w0 = wrd 0 ∧ n = 3) from hno 0 (by omega)), if_neg (show ¬ (w0 = wrd 1 ∧ n = 6) from hno 1 (by omega)), if_neg (show ¬ (w0 = wrd 2 ∧ n = 5) from hno 2 (by omega)), if_neg (show ¬ (w0 = wrd 3 ∧ n = 2) from hno 3 (by omega))]
theorem idx_pos {k : Int} {j : Nat} (h : j < (idxK k).length) : 1 ≤ (idxK k).getD j 0 := by
  rcases kind_cases k with rfl | rfl | rfl | rfl | ⟨h0, h1, h2, h3⟩
  · exact (by decide : ∀ j, j < 3 → 1 ≤ [1, 3, 5].getD j 0) j h
  · exact (by decide : ∀ j, j < 6 → 1 ≤ [1, 2, 3, 4, 5, 6].getD j 0) j h
  · exact (by decide : ∀ j, j < 5 → 1 ≤ [1, 2, 3, 4, 5].getD j 0) j h
  · exact (by decide : ∀ j, j < 2 → 1 ≤ [1, 6].getD j 0) j h
  · unfold idxK at h; rw [if_neg h0, if_neg h1, if_neg h2, if_neg h3] at h; exact absurd h (by simp)
theorem gi_setEq {xs : List Int} {p : Nat} {x : Int} (h : p < xs.length) : gi (xs.set p x) p = x := by simp [gi, h]
theorem gi_setNe {xs : List Int} {p i : Nat} {x : Int} (h : p ≠ i) : gi (xs.set p x) i = gi xs i := by unfold gi; simp [List.getD, List.getElem?_set_ne h]
theorem gi_set7 {xs : List Int} {p i : Nat} {x : Int} (hp : p < xs.length) : gi (xs.set p x) i = if i = p then x else gi xs i := by
  by_cases h : i = p
  · subst h; rw [if_pos rfl, gi_setEq hp]
  · rw [if_neg h, gi_setNe (fun e => h e.symm)]
theorem evS_rng {k : Int} {ns : List Int} : ∀ j, j ≤ (idxK k).length → (∀ i, i < j → 0 ≤ gi ns i ∧ gi ns i ≤ 999999) → gi (evS k ns j) 0 = k ∧ ∀ i, 1 ≤ i → 0 ≤ gi (evS k ns j) i ∧ gi (evS k ns j) i ≤ 999999
  | 0, _, _ => ⟨rfl, fun i hi => by
    match i, hi with
    | 1, _ => exact ⟨by show (0 : Int) ≤ 0; omega, by show (0 : Int) ≤ 999999; omega⟩
    | 2, _ => exact ⟨by show (0 : Int) ≤ 0; omega, by show (0 : Int) ≤ 999999; omega⟩
    | 3, _ => exact ⟨by show (0 : Int) ≤ 0; omega, by show (0 : Int) ≤ 999999; omega⟩
    | 4, _ => exact ⟨by show (0 : Int) ≤ 0; omega, by show (0 : Int) ≤ 999999; omega⟩
    | 5, _ => exact ⟨by show (0 : Int) ≤ 0; omega, by show (0 : Int) ≤ 999999; omega⟩
    | 6, _ => exact ⟨by show (0 : Int) ≤ 0; omega, by show (0 : Int) ≤ 999999; omega⟩
    | i + 7, _ =>
      have : gi (evS k ns 0) (i + 7) = 0 := by unfold gi; rw [List.getD_eq_getElem?_getD, List.getElem?_eq_none (by rw [evS_len]; omega)]; rfl
      rw [this]; exact ⟨by decide, by decide⟩⟩
  | j + 1, hj, h => by
    obtain ⟨h1, h2⟩ := evS_rng (k := k) (ns := ns) j (by omega) fun i hi => h i (by omega)
    have hp1 := idx_pos (k := k) (j := j) (by omega)
    have hp2 := idx_lt (k := k) (j := j) (by omega)
    rw [evS]
    refine ⟨by rw [gi_set7 (by rw [evS_len]; omega), if_neg (by omega)]; exact h1, fun i hi => ?_⟩
    rw [gi_set7 (by rw [evS_len]; omega)]
    split
    · exact h j (by omega)
    · exact h2 i hi
theorem list7 {E : List Int} (h : E.length = 7) : E = [gi E 0, gi E 1, gi E 2, gi E 3, gi E 4, gi E 5, gi E 6] := by
  match E, h with
  | [a, b, c, d, e, f, g], _ => rfl
theorem setCell_at {w : World} {X p i : Nat} {u v : Value} (h : w.cell? ⟨X, i, none⟩ = some u) : (w.setCell ⟨X, p, none⟩ v).cell? ⟨X, i, none⟩ = some (if i = p then v else u) := by
  by_cases hp : i = p
  · subst hp; rw [if_pos rfl]; go_simp
  · rw [if_neg hp]
    have hp2 : ¬ p = i := fun e => hp e.symm
    go_simp
theorem setCell_off {w : World} {X p g i : Nat} {u v : Value} (hne : ¬ g = X) (h : w.cell? ⟨g, i, none⟩ = some u) : (w.setCell ⟨X, p, none⟩ v).cell? ⟨g, i, none⟩ = some u := by
  have hne2 : ¬ X = g := fun e => hne e.symm
  go_simp
theorem setCell_fz {w : World} {X p g i : Nat} {v : Value} (h : w.frozen? ⟨g, i, none⟩ = false) : (w.setCell ⟨X, p, none⟩ v).frozen? ⟨g, i, none⟩ = false := by
  go_simp
set_option maxRecDepth 100000 in
set_option maxHeartbeats 8000000 in
theorem ParseEventI_any (l : List UInt8) (s : ByteArray) (hs : s = TB l) (w : World) (hl : l.length ≤ 4294967200) (hsh : w.ShapedOpen Tryz.prog) :
    Calls Tryz.prog 40 #[.string s] w fun e w' => PePost l w e w' := by
  have HS := Lib.hid hs
  have HSH := Lib.hid hsh
  clear hs hsh
  have Hs := Lib.hid (show ∃ w1, w1 = (w.alloc (.cells #[.int .i64 0, .int .i64 0, .int .i64 0, .int .i64 0, .int .i64 0, .int .i64 0, .int .i64 0] 40)) ∧ Below w.heap.size w w1 ∧ w1.cell? ⟨w.heap.size, 0, none⟩ = some (.int .i64 0) ∧ w1.cell? ⟨w.heap.size, 1, none⟩ = some (.int .i64 0) ∧ w1.cell? ⟨w.heap.size, 2, none⟩ = some (.int .i64 0) ∧ w1.cell? ⟨w.heap.size, 3, none⟩ = some (.int .i64 0) ∧ w1.cell? ⟨w.heap.size, 4, none⟩ = some (.int .i64 0) ∧ w1.cell? ⟨w.heap.size, 5, none⟩ = some (.int .i64 0) ∧ w1.cell? ⟨w.heap.size, 6, none⟩ = some (.int .i64 0) ∧ w1.frozen? ⟨w.heap.size, 0, none⟩ = false ∧ w1.frozen? ⟨w.heap.size, 1, none⟩ = false ∧ w1.frozen? ⟨w.heap.size, 2, none⟩ = false ∧ w1.frozen? ⟨w.heap.size, 3, none⟩ = false ∧ w1.frozen? ⟨w.heap.size, 4, none⟩ = false ∧ w1.frozen? ⟨w.heap.size, 5, none⟩ = false ∧ w1.frozen? ⟨w.heap.size, 6, none⟩ = false ∧ w.heap.size < w1.heap.size from by
    have hb : Below w.heap.size w (w.alloc (.cells #[.int .i64 0, .int .i64 0, .int .i64 0, .int .i64 0, .int .i64 0, .int .i64 0, .int .i64 0] 40)) := (Below.refl _ _).alloc (Nat.le_refl _) _
    exact ⟨_, rfl, hb, by go_simp, by go_simp, by go_simp, by go_simp, by go_simp, by go_simp, by go_simp, by go_simp, by go_simp, by go_simp, by go_simp, by go_simp, by go_simp, by go_simp, by simp⟩)
  go_enter Tryz.func40, Tryz.ntmps40
  go_wp2_with fail
  obtain ⟨w1, hw1, hb0, c00, c01, c02, c03, c04, c05, c06, f00, f01, f02, f03, f04, f05, f06, hz⟩ := Hs.out
  rw [← hw1]
  clear hw1 Hs
  refine (Split_any 32 l _ rfl s HS.out w1 (shaped_below HSH.out hb0) (by omega)).mono ?_
  rintro e w2 ⟨vw, rfl, hw2, b2⟩
  replace c00 := keepB b2 c00; replace c01 := keepB b2 c01; replace c02 := keepB b2 c02; replace c03 := keepB b2 c03; replace c04 := keepB b2 c04; replace c05 := keepB b2 c05; replace c06 := keepB b2 c06
  replace f00 := keepF b2 (by first | (simp; done) | (simp; omega)) f00; replace f01 := keepF b2 (by first | (simp; done) | (simp; omega)) f01; replace f02 := keepF b2 (by first | (simp; done) | (simp; omega)) f02; replace f03 := keepF b2 (by first | (simp; done) | (simp; omega)) f03; replace f04 := keepF b2 (by first | (simp; done) | (simp; omega)) f04; replace f05 := keepF b2 (by first | (simp; done) | (simp; omega)) f05; replace f06 := keepF b2 (by first | (simp; done) | (simp; omega)) f06
  have HB2 := Lib.hid (hb0.trans (b2.mono (by omega)))
  have hz2 : w.heap.size < w2.heap.size := by have := b2.size; omega
  have HW2 := Lib.hid (hw2.wide (show w.heap.size ≤ w1.heap.size by omega) (Nat.le_refl _))
  obtain ⟨Aw, cw, rfl, hcw, hcw2⟩ := hw2.form
  clear b2 hb0 hw2
  obtain ⟨W, hW⟩ : ∃ W, W = splitC 32 [] l := ⟨_, rfl⟩
  have HWL := Lib.hid (show W.length ≤ l.length + 1 by rw [hW, splitC_len]; have : l.count 32 ≤ l.length := List.count_le_length; omega)
  have HML := Lib.hid (show ∀ j, (gs W j).length ≤ l.length from fun j => by rw [hW]; exact split_memlen)
  have hne := splitC_ne 32 l []
  rw [← hW] at HW2 hcw hne ⊢
  have HWE := Lib.hid hW.symm
  clear hW
  obtain ⟨w0, xs, rfl⟩ : ∃ a t, W = a :: t := by
    cases W with
    | nil => exact absurd rfl hne
    | cons a t => exact ⟨a, t, rfl⟩
  have hWl : (w0 :: xs).length = xs.length + 1 := rfl
  rw [hWl] at HWL hcw ⊢
  rw [show (Value.slice Aw (w0 :: xs).length cw) = Value.slice Aw (xs.length + 1) cw from rfl] at HW2
  obtain ⟨bw, ow, hAw, hbw1, hbw2, cz0⟩ := HW2.out.cell (k := 0) (by simp)
  subst hAw
  replace cz0 : w2.cell? ⟨bw, ow, none⟩ = some (.string (TB w0)) := cz0
  obtain ⟨z0, hz0⟩ : ∃ z, z = TB w0 := ⟨_, rfl⟩
  have HZZ := Lib.hid (show z0.toList = w0 by rw [hz0, TB_toList])
  rw [← hz0] at cz0
  have hxl : xs.length ≤ 4294967295 := by have := HWL.out; omega
  clear hz0 hne hWl
  have bl : Below w2.heap.size w2 (w2.alloc (.cells #[.int .i64 0, .int .i64 1, .int .i64 2, .int .i64 3] 3)) := (Below.refl _ _).alloc (Nat.le_refl _) _
  have HBL := Lib.hid bl
  have HLT := Lib.hid (show ∀ i : Nat, i < 4 → (w2.alloc (.cells #[.int .i64 0, .int .i64 1, .int .i64 2, .int .i64 3] 3)).cell? ⟨w2.heap.size, i, none⟩ = some (.int .i64 (i : Int)) from fun i hi => by
    obtain rfl | rfl | rfl | rfl : i = 0 ∨ i = 1 ∨ i = 2 ∨ i = 3 := by omega
    · go_simp
    · go_simp
    · go_simp
    · go_simp)
  have hzl : w2.heap.size < (w2.alloc (.cells #[.int .i64 0, .int .i64 1, .int .i64 2, .int .i64 3] 3)).heap.size := by simp
  clear bl
  go_wp2
  go_loopw [6, 7, 8, 9, 10, 11, 12, 17, 41] (fun _ _ _ _ _ _ _ i _ wr => ∃ m : Nat, m ≤ 4 ∧ i = .int .i64 (m : Int) ∧ Hid (∀ i : Nat, i < m → ¬ (w0 = wrd (i : Int) ∧ xs.length = (idxK (i : Int)).length)) ∧ Hid (Below w2.heap.size w2 wr) ∧ Hid (∀ i : Nat, i < 4 → wr.cell? ⟨w2.heap.size, i, none⟩ = some (.int .i64 (i : Int))) ∧ w2.heap.size < wr.heap.size) (fun _ _ _ _ _ _ _ i _ _ => 4 - (intOf i).toNat)
  case atStart => exact ⟨0, Nat.zero_le _, rfl, fun i hi => absurd hi (by omega), HBL.out, HLT.out, hzl⟩
  case round =>
    obtain ⟨m, hm, rfl, HNM, HB, HLI, hzr⟩ := hrel
    clear HBL HLT hzl
    obtain ⟨wo, rfl⟩ : ∃ wo : World, wo = wr := ⟨_, rfl⟩
    have c00 := keepB HB.out c00
    have c01 := keepB HB.out c01
    have c02 := keepB HB.out c02
    have c03 := keepB HB.out c03
    have c04 := keepB HB.out c04
    have c05 := keepB HB.out c05
    have c06 := keepB HB.out c06
    have f00 := keepF HB.out (by first | (simp; done) | (simp; omega)) f00
    have f01 := keepF HB.out (by first | (simp; done) | (simp; omega)) f01
    have f02 := keepF HB.out (by first | (simp; done) | (simp; omega)) f02
    have f03 := keepF HB.out (by first | (simp; done) | (simp; omega)) f03
    have f04 := keepF HB.out (by first | (simp; done) | (simp; omega)) f04
    have f05 := keepF HB.out (by first | (simp; done) | (simp; omega)) f05
    have f06 := keepF HB.out (by first | (simp; done) | (simp; omega)) f06
    by_cases hlt : m < 4
    rotate_left
    · have hnm : ¬ (m : Int) < 4 := by omega
      have HN := Lib.hid (parE_no HWE.out (kndT_non fun i hi => HNM.out i (by omega)))
      have HBB := Lib.hid (HB2.out.trans (HB.out.mono (Nat.le_of_lt hz2)))
      go_wp2
      refine bodyPost_ret (v := .tuple #[EvZ, .bool false]) (by simp [results, EvZ, Tryz.results40, go_sem, *]) rfl ?_
      exact ⟨below7 HBB.out (Nat.le_refl _) _ _ _ _ _ _ _, .inl ⟨HN.out, rfl⟩⟩
    have m0 : (0 : Int) ≤ (m : Int) := by omega
    have m1 : (m : Int) < 4 := by omega
    have cl := HLI.out m hlt
    go_wp2_with fail
    obtain ⟨w4, hw1⟩ : ∃ w4, w4 = wo.alloc (.cells #[.int .i64 ((m : Int)), .int .i64 0, .int .i64 0, .int .i64 0, .int .i64 0, .int .i64 0, .int .i64 0] 40) := ⟨_, rfl⟩
    have e0 : w4.cell? ⟨wo.heap.size, 0, none⟩ = some (.int .i64 ((m : Int))) := by rw [hw1]; go_simp
    have e1 : w4.cell? ⟨wo.heap.size, 1, none⟩ = some (.int .i64 0) := by rw [hw1]; go_simp
    have e2 : w4.cell? ⟨wo.heap.size, 2, none⟩ = some (.int .i64 0) := by rw [hw1]; go_simp
    have e3 : w4.cell? ⟨wo.heap.size, 3, none⟩ = some (.int .i64 0) := by rw [hw1]; go_simp
    have e4 : w4.cell? ⟨wo.heap.size, 4, none⟩ = some (.int .i64 0) := by rw [hw1]; go_simp
    have e5 : w4.cell? ⟨wo.heap.size, 5, none⟩ = some (.int .i64 0) := by rw [hw1]; go_simp
    have e6 : w4.cell? ⟨wo.heap.size, 6, none⟩ = some (.int .i64 0) := by rw [hw1]; go_simp
    have be : Below wo.heap.size wo w4 := by rw [hw1]; exact (Below.refl _ _).alloc (Nat.le_refl _) _
    have ze : wo.heap.size < w4.heap.size := by rw [hw1]; simp
    have HZe := Lib.hid (show w4.heap.size = wo.heap.size + 1 by rw [hw1]; simp)
    have fe0 : w4.frozen? ⟨wo.heap.size, 0, none⟩ = false := by rw [hw1]; go_simp
    have fe1 : w4.frozen? ⟨wo.heap.size, 1, none⟩ = false := by rw [hw1]; go_simp
    have fe2 : w4.frozen? ⟨wo.heap.size, 2, none⟩ = false := by rw [hw1]; go_simp
    have fe3 : w4.frozen? ⟨wo.heap.size, 3, none⟩ = false := by rw [hw1]; go_simp
    have fe4 : w4.frozen? ⟨wo.heap.size, 4, none⟩ = false := by rw [hw1]; go_simp
    have fe5 : w4.frozen? ⟨wo.heap.size, 5, none⟩ = false := by rw [hw1]; go_simp
    have fe6 : w4.frozen? ⟨wo.heap.size, 6, none⟩ = false := by rw [hw1]; go_simp
    have He := Lib.hid (show w4.heap[wo.heap.size]? = some (.cells #[.int .i64 ((m : Int)), .int .i64 0, .int .i64 0, .int .i64 0, .int .i64 0, .int .i64 0, .int .i64 0] 40) by rw [hw1]; exact heap_alloc_new wo _)
    rw [← hw1]
    clear hw1
    refine (numbersOfI_any wo.heap.size (m : Int) w4 e0).mono ?_
    rintro e w5 ⟨A5, rfl, b5, hcs⟩
    replace c00 := keepB be c00; replace c01 := keepB be c01; replace c02 := keepB be c02; replace c03 := keepB be c03; replace c04 := keepB be c04; replace c05 := keepB be c05; replace c06 := keepB be c06
    replace f00 := keepF be (by first | (simp; done) | (simp; omega)) f00; replace f01 := keepF be (by first | (simp; done) | (simp; omega)) f01; replace f02 := keepF be (by first | (simp; done) | (simp; omega)) f02; replace f03 := keepF be (by first | (simp; done) | (simp; omega)) f03; replace f04 := keepF be (by first | (simp; done) | (simp; omega)) f04; replace f05 := keepF be (by first | (simp; done) | (simp; omega)) f05; replace f06 := keepF be (by first | (simp; done) | (simp; omega)) f06
    replace c00 := keepB b5 c00; replace c01 := keepB b5 c01; replace c02 := keepB b5 c02; replace c03 := keepB b5 c03; replace c04 := keepB b5 c04; replace c05 := keepB b5 c05; replace c06 := keepB b5 c06; replace e0 := keepB b5 e0; replace e1 := keepB b5 e1; replace e2 := keepB b5 e2; replace e3 := keepB b5 e3; replace e4 := keepB b5 e4; replace e5 := keepB b5 e5; replace e6 := keepB b5 e6
    replace f00 := keepF b5 (by first | (simp; done) | (simp; omega)) f00; replace f01 := keepF b5 (by first | (simp; done) | (simp; omega)) f01; replace f02 := keepF b5 (by first | (simp; done) | (simp; omega)) f02; replace f03 := keepF b5 (by first | (simp; done) | (simp; omega)) f03; replace f04 := keepF b5 (by first | (simp; done) | (simp; omega)) f04; replace f05 := keepF b5 (by first | (simp; done) | (simp; omega)) f05; replace f06 := keepF b5 (by first | (simp; done) | (simp; omega)) f06; replace fe0 := keepF b5 (by first | (simp; done) | (simp; omega)) fe0; replace fe1 := keepF b5 (by first | (simp; done) | (simp; omega)) fe1; replace fe2 := keepF b5 (by first | (simp; done) | (simp; omega)) fe2; replace fe3 := keepF b5 (by first | (simp; done) | (simp; omega)) fe3; replace fe4 := keepF b5 (by first | (simp; done) | (simp; omega)) fe4; replace fe5 := keepF b5 (by first | (simp; done) | (simp; omega)) fe5; replace fe6 := keepF b5 (by first | (simp; done) | (simp; omega)) fe6
    have HB5 := Lib.hid (HB.out.trans ((be.trans (b5.mono (Nat.le_of_lt ze))).mono (Nat.le_of_lt hzr)))
    have HCS := Lib.hid hcs
    have hz5 : wo.heap.size < w5.heap.size := by have := b5.size; omega
    have h45 : w4.heap.size ≤ w5.heap.size := b5.size
    have hwo4 : wo.heap.size < w4.heap.size := ze
    have HLI5 := Lib.hid (show ∀ i : Nat, i < 4 → w5.cell? ⟨w2.heap.size, i, none⟩ = some (.int .i64 (i : Int)) from fun i hi => keepB b5 (keepB be (HLI.out i hi)))
    have cz := keepB HB5.out cz0
    obtain ⟨X, hX⟩ : ∃ X, X = wo.heap.size := ⟨_, rfl⟩
    rw [← hX] at e0 e1 e2 e3 e4 e5 e6 fe0 fe1 fe2 fe3 fe4 fe5 fe6 HCS hz5 hwo4 hzr
    rw [← hX]
    have HXS := Lib.hid hX
    clear be b5 hcs He HZe hX ze HLI HB
    obtain ⟨n, hn⟩ : ∃ n, n = (idxK (m : Int)).length := ⟨_, rfl⟩
    have hn6 : n ≤ 6 := by rw [hn]; exact idxK_len _
    have HN := Lib.hid hn
    rw [← hn] at HCS ⊢
    obtain ⟨zw, hzw⟩ : ∃ z, z = TB (wrd (m : Int)) := ⟨_, rfl⟩
    have HZW := Lib.hid hzw
    have HZWL := Lib.hid (show zw.toList = wrd (m : Int) by rw [hzw, TB_toList])
    have czd : w5.drew.cell? ⟨bw, ow, none⟩ = some (.string z0) := cz
    have gn : IntKind.i64.wrap ((n : Int) + 1) = (n : Int) + 1 := IntWalk.i64_in _ (by omega)
    clear hn hzw
    by_cases hw : w0 = wrd (m : Int)
    rotate_left
    · have q0 : (z0.toList == zw.toList) = false := by rw [HZZ.out, HZWL.out]; exact beq_false_of_ne hw
      have HNM2 := Lib.hid (show ∀ i : Nat, i < m + 1 → ¬ (w0 = wrd (i : Int) ∧ xs.length = (idxK (i : Int)).length) from fun i hi => by
        rcases Nat.lt_or_ge i m with h' | h'
        · exact HNM.out i h'
        · obtain rfl : i = m := by omega
          exact fun h => hw h.1)
      clear hw
      go_wp2
      refine wp_region_held_drew (S := fun w' => w'.cell? ⟨bw, ow, none⟩ = some (.string z0)) (by kernel_rfl) ?_ (fun hHeld => ?_)
      · (first | (try dsimp only); go_keep | (first | exact keepW bg1 (by first | (simp; done) | (simp; omega)) (by assumption)))
      refine wpAnyH_take (i := 0) (oi := ⟨some 24, _, _, _, _, _⟩) (v := _) rfl (by kernel_rfl) (by kernel_rfl) (by kernel_rfl) (fun _ _ _ h => h) (Or.inl ⟨by kernel_rfl, by intro w hSw; (try dsimp only at hSw); go_simp; try with_reducible rfl⟩) (by assumption) ?_
      simp only [Act.put, List.setIfInBounds_toArray, List.set_cons_zero, List.set_cons_succ]
      refine wpAnyH_take (i := 1) (oi := ⟨some 25, _, _, _, _, _⟩) (v := _) rfl (by kernel_rfl) (by kernel_rfl) (by kernel_rfl) (fun _ _ _ h => h) (Or.inl ⟨by kernel_rfl, by intro w hSw; (try dsimp only at hSw); go_simp; try with_reducible rfl⟩) (by assumption) ?_
      simp only [Act.put, List.setIfInBounds_toArray, List.set_cons_zero, List.set_cons_succ]
      refine wpAnyH_take (i := 2) (oi := ⟨some 26, _, _, _, _, _⟩) (v := _) rfl (by kernel_rfl) (by kernel_rfl) (by kernel_rfl) (fun _ _ _ h => h) (Or.inl ⟨by kernel_rfl, by intro w hSw; (try dsimp only at hSw); go_simp; try with_reducible rfl⟩) (by assumption) ?_
      simp only [Act.put, List.setIfInBounds_toArray, List.set_cons_zero, List.set_cons_succ]
      refine wpAnyH_take (i := 3) (oi := ⟨some 27, _, _, _, _, _⟩) (v := _) rfl (by kernel_rfl) (by kernel_rfl) (by kernel_rfl) (fun _ _ _ h => h) (Or.inl ⟨by kernel_rfl, by intro w hSw; (try dsimp only at hSw); go_simp; try with_reducible rfl⟩) (by assumption) ?_
      simp only [Act.put, List.setIfInBounds_toArray, List.set_cons_zero, List.set_cons_succ]
      refine wpAnyH_ready (rs := [4]) (by kernel_rfl) (by simp) ?_
      refine AllReadyH.cons (o := ⟨some 28, _, _, _, _, _⟩) rfl (fun K hK => ?_) AllReadyH.nil
      go_simp
      go_at_call 79
      refine (wordOf_any (m : Int) _).mono ?_
      rw [← HZW.out]
      rintro e x1 ⟨rfl, hx1⟩
      subst hx1
      go_wp2_with fail
      refine hK.out _ _ ?_ (fun hHeld2 => ?_)
      · (first | (try dsimp only); go_keep | (first | exact keepW bg1 (by first | (simp; done) | (simp; omega)) (by assumption)))
      clear hK K hHeld
      have hHeld := hHeld2
      clear hHeld2
      try simp only [Act.put, List.setIfInBounds_toArray, List.set_cons_zero, List.set_cons_succ]
      refine wpAnyH_take (i := 5) (oi := ⟨some 29, _, _, _, _, _⟩) (v := _) rfl (by kernel_rfl) (by kernel_rfl) (by kernel_rfl) (fun _ _ _ h => h) (Or.inl ⟨by kernel_rfl, by intro w hSw; (try dsimp only at hSw); go_simp; try with_reducible rfl⟩) (by assumption) ?_
      simp only [Act.put, List.setIfInBounds_toArray, List.set_cons_zero, List.set_cons_succ]
      refine wpAnyH_take (i := 6) (oi := ⟨some 30, _, _, _, _, _⟩) (v := _) rfl (by kernel_rfl) (by kernel_rfl) (by kernel_rfl) (fun _ _ _ h => h) (Or.inl ⟨by kernel_rfl, by intro w hSw; (try dsimp only at hSw); go_simp; try with_reducible rfl⟩) (by assumption) ?_
      simp only [Act.put, List.setIfInBounds_toArray, List.set_cons_zero, List.set_cons_succ]
      refine wpAnyH_take (i := 7) (oi := ⟨some 31, _, _, _, _, _⟩) (v := undef) rfl (by kernel_rfl) (by kernel_rfl) (by kernel_rfl) (fun _ _ _ h => h) (Or.inr ⟨by kernel_rfl, rfl⟩) (by assumption) ?_
      simp only [Act.put, List.setIfInBounds_toArray, List.set_cons_zero, List.set_cons_succ]
      refine wpAnyH_take (i := 8) (oi := ⟨some 32, _, _, _, _, _⟩) (v := undef) rfl (by kernel_rfl) (by kernel_rfl) (by kernel_rfl) (fun _ _ _ h => h) (Or.inr ⟨by kernel_rfl, rfl⟩) (by assumption) ?_
      simp only [Act.put, List.setIfInBounds_toArray, List.set_cons_zero, List.set_cons_succ]
      refine wpAnyH_take (i := 9) (oi := ⟨some 33, _, _, _, _, _⟩) (v := undef) rfl (by kernel_rfl) (by kernel_rfl) (by kernel_rfl) (fun _ _ _ h => h) (Or.inr ⟨by kernel_rfl, rfl⟩) (by assumption) ?_
      simp only [Act.put, List.setIfInBounds_toArray, List.set_cons_zero, List.set_cons_succ]
      refine wpAnyH_take (i := 10) (oi := ⟨some 34, _, _, _, _, _⟩) (v := undef) rfl (by kernel_rfl) (by kernel_rfl) (by kernel_rfl) (fun _ _ _ h => h) (Or.inr ⟨by kernel_rfl, rfl⟩) (by assumption) ?_
      simp only [Act.put, List.setIfInBounds_toArray, List.set_cons_zero, List.set_cons_succ]
      refine wpAnyH_take (i := 11) (oi := ⟨some 35, _, _, _, _, _⟩) (v := undef) rfl (by kernel_rfl) (by kernel_rfl) (by kernel_rfl) (fun _ _ _ h => h) (Or.inr ⟨by kernel_rfl, rfl⟩) (by assumption) ?_
      simp only [Act.put, List.setIfInBounds_toArray, List.set_cons_zero, List.set_cons_succ]
      refine wpAnyH_take (i := 12) (oi := ⟨some 36, _, _, _, _, _⟩) (v := undef) rfl (by kernel_rfl) (by kernel_rfl) (by kernel_rfl) (fun _ _ _ h => h) (Or.inr ⟨by kernel_rfl, rfl⟩) (by assumption) ?_
      simp only [Act.put, List.setIfInBounds_toArray, List.set_cons_zero, List.set_cons_succ]
      refine wpAnyH_take (i := 13) (oi := ⟨some 37, _, _, _, _, _⟩) (v := _) rfl (by kernel_rfl) (by kernel_rfl) (by kernel_rfl) (fun _ _ _ h => h) (Or.inl ⟨by kernel_rfl, by intro w hSw; (try dsimp only at hSw); go_simp; try with_reducible rfl⟩) (by assumption) ?_
      simp only [Act.put, List.setIfInBounds_toArray, List.set_cons_zero, List.set_cons_succ]
      refine wpAnyH_done (by kernel_rfl) ?_ _
      clear hHeld
      go_wp2
      go_roundw
      case rel => exact ⟨m + 1, hlt, by go_num, HNM2.out, HB5.out.drew, fun i hi => HLI5.out i hi, by show _ < w5.heap.size; omega⟩
      case measure => simp [intOf]; omega
    have q0 : (z0.toList == zw.toList) = true := by rw [HZZ.out, HZWL.out, hw]; simp
    by_cases hle : xs.length = n
    rotate_left
    · have e1 : ((xs.length : Int) + 1 == (n : Int) + 1) = false := beq_f (by omega)
      have e2 : ((xs.length : Int) == (n : Int)) = false := beq_f (by omega)
      have e3 : (xs.length == n) = false := by simpa using hle
      have HNM2 := Lib.hid (show ∀ i : Nat, i < m + 1 → ¬ (w0 = wrd (i : Int) ∧ xs.length = (idxK (i : Int)).length) from fun i hi => by
        rcases Nat.lt_or_ge i m with h' | h'
        · exact HNM.out i h'
        · obtain rfl : i = m := by omega
          exact fun h => hle (by rw [HN.out]; exact h.2))
      clear hw hle
      go_wp2
      refine wp_region_held_drew (S := fun w' => w'.cell? ⟨bw, ow, none⟩ = some (.string z0)) (by kernel_rfl) ?_ (fun hHeld => ?_)
      · (first | (try dsimp only); go_keep | (first | exact keepW bg1 (by first | (simp; done) | (simp; omega)) (by assumption)))
      refine wpAnyH_take (i := 0) (oi := ⟨some 24, _, _, _, _, _⟩) (v := _) rfl (by kernel_rfl) (by kernel_rfl) (by kernel_rfl) (fun _ _ _ h => h) (Or.inl ⟨by kernel_rfl, by intro w hSw; (try dsimp only at hSw); go_simp; try with_reducible rfl⟩) (by assumption) ?_
      simp only [Act.put, List.setIfInBounds_toArray, List.set_cons_zero, List.set_cons_succ]
      refine wpAnyH_take (i := 1) (oi := ⟨some 25, _, _, _, _, _⟩) (v := _) rfl (by kernel_rfl) (by kernel_rfl) (by kernel_rfl) (fun _ _ _ h => h) (Or.inl ⟨by kernel_rfl, by intro w hSw; (try dsimp only at hSw); go_simp; try with_reducible rfl⟩) (by assumption) ?_
      simp only [Act.put, List.setIfInBounds_toArray, List.set_cons_zero, List.set_cons_succ]
      refine wpAnyH_take (i := 2) (oi := ⟨some 26, _, _, _, _, _⟩) (v := _) rfl (by kernel_rfl) (by kernel_rfl) (by kernel_rfl) (fun _ _ _ h => h) (Or.inl ⟨by kernel_rfl, by intro w hSw; (try dsimp only at hSw); go_simp; try with_reducible rfl⟩) (by assumption) ?_
      simp only [Act.put, List.setIfInBounds_toArray, List.set_cons_zero, List.set_cons_succ]
      refine wpAnyH_take (i := 3) (oi := ⟨some 27, _, _, _, _, _⟩) (v := _) rfl (by kernel_rfl) (by kernel_rfl) (by kernel_rfl) (fun _ _ _ h => h) (Or.inl ⟨by kernel_rfl, by intro w hSw; (try dsimp only at hSw); go_simp; try with_reducible rfl⟩) (by assumption) ?_
      simp only [Act.put, List.setIfInBounds_toArray, List.set_cons_zero, List.set_cons_succ]
      refine wpAnyH_ready (rs := [4]) (by kernel_rfl) (by simp) ?_
      refine AllReadyH.cons (o := ⟨some 28, _, _, _, _, _⟩) rfl (fun K hK => ?_) AllReadyH.nil
      go_simp
      go_at_call 79
      refine (wordOf_any (m : Int) _).mono ?_
      rw [← HZW.out]
      rintro e x1 ⟨rfl, hx1⟩
      subst hx1
      go_wp2_with fail
      refine hK.out _ _ ?_ (fun hHeld2 => ?_)
      · (first | (try dsimp only); go_keep | (first | exact keepW bg1 (by first | (simp; done) | (simp; omega)) (by assumption)))
      clear hK K hHeld
      have hHeld := hHeld2
      clear hHeld2
      try simp only [Act.put, List.setIfInBounds_toArray, List.set_cons_zero, List.set_cons_succ]
      refine wpAnyH_take (i := 5) (oi := ⟨some 29, _, _, _, _, _⟩) (v := _) rfl (by kernel_rfl) (by kernel_rfl) (by kernel_rfl) (fun _ _ _ h => h) (Or.inl ⟨by kernel_rfl, by intro w hSw; (try dsimp only at hSw); go_simp; try with_reducible rfl⟩) (by assumption) ?_
      simp only [Act.put, List.setIfInBounds_toArray, List.set_cons_zero, List.set_cons_succ]
      refine wpAnyH_take (i := 6) (oi := ⟨some 30, _, _, _, _, _⟩) (v := _) rfl (by kernel_rfl) (by kernel_rfl) (by kernel_rfl) (fun _ _ _ h => h) (Or.inl ⟨by kernel_rfl, by intro w hSw; (try dsimp only at hSw); go_simp; try with_reducible rfl⟩) (by assumption) ?_
      simp only [Act.put, List.setIfInBounds_toArray, List.set_cons_zero, List.set_cons_succ]
      refine wpAnyH_take (i := 7) (oi := ⟨some 31, _, _, _, _, _⟩) (v := _) rfl (by kernel_rfl) (by kernel_rfl) (by kernel_rfl) (fun _ _ _ h => h) (Or.inl ⟨by kernel_rfl, by intro w hSw; (try dsimp only at hSw); go_simp; try with_reducible rfl⟩) (by assumption) ?_
      simp only [Act.put, List.setIfInBounds_toArray, List.set_cons_zero, List.set_cons_succ]
      refine wpAnyH_take (i := 8) (oi := ⟨some 32, _, _, _, _, _⟩) (v := _) rfl (by kernel_rfl) (by kernel_rfl) (by kernel_rfl) (fun _ _ _ h => h) (Or.inl ⟨by kernel_rfl, by intro w hSw; (try dsimp only at hSw); go_simp; try with_reducible rfl⟩) (by assumption) ?_
      simp only [Act.put, List.setIfInBounds_toArray, List.set_cons_zero, List.set_cons_succ]
      refine wpAnyH_take (i := 9) (oi := ⟨some 33, _, _, _, _, _⟩) (v := _) rfl (by kernel_rfl) (by kernel_rfl) (by kernel_rfl) (fun _ _ _ h => h) (Or.inl ⟨by kernel_rfl, by intro w hSw; (try dsimp only at hSw); go_simp; try with_reducible rfl⟩) (by assumption) ?_
      simp only [Act.put, List.setIfInBounds_toArray, List.set_cons_zero, List.set_cons_succ]
      refine wpAnyH_take (i := 10) (oi := ⟨some 34, _, _, _, _, _⟩) (v := _) rfl (by kernel_rfl) (by kernel_rfl) (by kernel_rfl) (fun _ _ _ h => h) (Or.inl ⟨by kernel_rfl, by intro w hSw; (try dsimp only at hSw); go_simp; try with_reducible rfl⟩) (by assumption) ?_
      simp only [Act.put, List.setIfInBounds_toArray, List.set_cons_zero, List.set_cons_succ]
      refine wpAnyH_take (i := 11) (oi := ⟨some 35, _, _, _, _, _⟩) (v := _) rfl (by kernel_rfl) (by kernel_rfl) (by kernel_rfl) (fun _ _ _ h => h) (Or.inl ⟨by kernel_rfl, by intro w hSw; (try dsimp only at hSw); go_simp; try with_reducible rfl⟩) (by assumption) ?_
      simp only [Act.put, List.setIfInBounds_toArray, List.set_cons_zero, List.set_cons_succ]
      refine wpAnyH_take (i := 12) (oi := ⟨some 36, _, _, _, _, _⟩) (v := _) rfl (by kernel_rfl) (by kernel_rfl) (by kernel_rfl) (fun _ _ _ h => h) (Or.inl ⟨by kernel_rfl, by intro w hSw; (try dsimp only at hSw); go_simp; try with_reducible rfl⟩) (by assumption) ?_
      simp only [Act.put, List.setIfInBounds_toArray, List.set_cons_zero, List.set_cons_succ]
      refine wpAnyH_take (i := 13) (oi := ⟨some 37, _, _, _, _, _⟩) (v := _) rfl (by kernel_rfl) (by kernel_rfl) (by kernel_rfl) (fun _ _ _ h => h) (Or.inl ⟨by kernel_rfl, by intro w hSw; (try dsimp only at hSw); go_simp; try with_reducible rfl⟩) (by assumption) ?_
      simp only [Act.put, List.setIfInBounds_toArray, List.set_cons_zero, List.set_cons_succ]
      refine wpAnyH_done (by kernel_rfl) ?_ _
      clear hHeld
      go_wp2
      go_roundw
      case rel => exact ⟨m + 1, hlt, by go_num, HNM2.out, HB5.out.drew, fun i hi => HLI5.out i hi, by show _ < w5.heap.size; omega⟩
      case measure => simp [intOf]; omega
    have HKT := Lib.hid (kndT_at hlt HNM.out ⟨hw, by rw [← HN.out]; exact hle⟩)
    obtain rfl : n = xs.length := hle.symm
    have hx1 : 1 ≤ xs.length := by
      rw [HN.out]
      obtain rfl | rfl | rfl | rfl : m = 0 ∨ m = 1 ∨ m = 2 ∨ m = 3 := by omega
      · decide
      · decide
      · decide
      · decide
    clear hw hle
    go_wp2
    refine wp_region_held_drew (S := fun w' => w'.cell? ⟨bw, ow, none⟩ = some (.string z0)) (by kernel_rfl) ?_ (fun hHeld => ?_)
    · (first | (try dsimp only); go_keep | (first | exact keepW bg1 (by first | (simp; done) | (simp; omega)) (by assumption)))
    refine wpAnyH_take (i := 0) (oi := ⟨some 24, _, _, _, _, _⟩) (v := _) rfl (by kernel_rfl) (by kernel_rfl) (by kernel_rfl) (fun _ _ _ h => h) (Or.inl ⟨by kernel_rfl, by intro w hSw; (try dsimp only at hSw); go_simp; try with_reducible rfl⟩) (by assumption) ?_
    simp only [Act.put, List.setIfInBounds_toArray, List.set_cons_zero, List.set_cons_succ]
    refine wpAnyH_take (i := 1) (oi := ⟨some 25, _, _, _, _, _⟩) (v := _) rfl (by kernel_rfl) (by kernel_rfl) (by kernel_rfl) (fun _ _ _ h => h) (Or.inl ⟨by kernel_rfl, by intro w hSw; (try dsimp only at hSw); go_simp; try with_reducible rfl⟩) (by assumption) ?_
    simp only [Act.put, List.setIfInBounds_toArray, List.set_cons_zero, List.set_cons_succ]
    refine wpAnyH_take (i := 2) (oi := ⟨some 26, _, _, _, _, _⟩) (v := _) rfl (by kernel_rfl) (by kernel_rfl) (by kernel_rfl) (fun _ _ _ h => h) (Or.inl ⟨by kernel_rfl, by intro w hSw; (try dsimp only at hSw); go_simp; try with_reducible rfl⟩) (by assumption) ?_
    simp only [Act.put, List.setIfInBounds_toArray, List.set_cons_zero, List.set_cons_succ]
    refine wpAnyH_take (i := 3) (oi := ⟨some 27, _, _, _, _, _⟩) (v := _) rfl (by kernel_rfl) (by kernel_rfl) (by kernel_rfl) (fun _ _ _ h => h) (Or.inl ⟨by kernel_rfl, by intro w hSw; (try dsimp only at hSw); go_simp; try with_reducible rfl⟩) (by assumption) ?_
    simp only [Act.put, List.setIfInBounds_toArray, List.set_cons_zero, List.set_cons_succ]
    refine wpAnyH_ready (rs := [4]) (by kernel_rfl) (by simp) ?_
    refine AllReadyH.cons (o := ⟨some 28, _, _, _, _, _⟩) rfl (fun K hK => ?_) AllReadyH.nil
    go_simp
    go_at_call 79
    refine (wordOf_any (m : Int) _).mono ?_
    rw [← HZW.out]
    rintro e x1 ⟨rfl, hx1⟩
    subst hx1
    go_wp2_with fail
    refine hK.out _ _ ?_ (fun hHeld2 => ?_)
    · (first | (try dsimp only); go_keep | (first | exact keepW bg1 (by first | (simp; done) | (simp; omega)) (by assumption)))
    clear hK K hHeld
    have hHeld := hHeld2
    clear hHeld2
    try simp only [Act.put, List.setIfInBounds_toArray, List.set_cons_zero, List.set_cons_succ]
    refine wpAnyH_take (i := 5) (oi := ⟨some 29, _, _, _, _, _⟩) (v := _) rfl (by kernel_rfl) (by kernel_rfl) (by kernel_rfl) (fun _ _ _ h => h) (Or.inl ⟨by kernel_rfl, by intro w hSw; (try dsimp only at hSw); go_simp; try with_reducible rfl⟩) (by assumption) ?_
    simp only [Act.put, List.setIfInBounds_toArray, List.set_cons_zero, List.set_cons_succ]
    refine wpAnyH_take (i := 6) (oi := ⟨some 30, _, _, _, _, _⟩) (v := _) rfl (by kernel_rfl) (by kernel_rfl) (by kernel_rfl) (fun _ _ _ h => h) (Or.inl ⟨by kernel_rfl, by intro w hSw; (try dsimp only at hSw); go_simp; try with_reducible rfl⟩) (by assumption) ?_
    simp only [Act.put, List.setIfInBounds_toArray, List.set_cons_zero, List.set_cons_succ]
    refine wpAnyH_take (i := 7) (oi := ⟨some 31, _, _, _, _, _⟩) (v := _) rfl (by kernel_rfl) (by kernel_rfl) (by kernel_rfl) (fun _ _ _ h => h) (Or.inl ⟨by kernel_rfl, by intro w hSw; (try dsimp only at hSw); go_simp; try with_reducible rfl⟩) (by assumption) ?_
    simp only [Act.put, List.setIfInBounds_toArray, List.set_cons_zero, List.set_cons_succ]
    refine wpAnyH_take (i := 8) (oi := ⟨some 32, _, _, _, _, _⟩) (v := _) rfl (by kernel_rfl) (by kernel_rfl) (by kernel_rfl) (fun _ _ _ h => h) (Or.inl ⟨by kernel_rfl, by intro w hSw; (try dsimp only at hSw); go_simp; try with_reducible rfl⟩) (by assumption) ?_
    simp only [Act.put, List.setIfInBounds_toArray, List.set_cons_zero, List.set_cons_succ]
    refine wpAnyH_take (i := 9) (oi := ⟨some 33, _, _, _, _, _⟩) (v := _) rfl (by kernel_rfl) (by kernel_rfl) (by kernel_rfl) (fun _ _ _ h => h) (Or.inl ⟨by kernel_rfl, by intro w hSw; (try dsimp only at hSw); go_simp; try with_reducible rfl⟩) (by assumption) ?_
    simp only [Act.put, List.setIfInBounds_toArray, List.set_cons_zero, List.set_cons_succ]
    refine wpAnyH_take (i := 10) (oi := ⟨some 34, _, _, _, _, _⟩) (v := _) rfl (by kernel_rfl) (by kernel_rfl) (by kernel_rfl) (fun _ _ _ h => h) (Or.inl ⟨by kernel_rfl, by intro w hSw; (try dsimp only at hSw); go_simp; try with_reducible rfl⟩) (by assumption) ?_
    simp only [Act.put, List.setIfInBounds_toArray, List.set_cons_zero, List.set_cons_succ]
    refine wpAnyH_take (i := 11) (oi := ⟨some 35, _, _, _, _, _⟩) (v := _) rfl (by kernel_rfl) (by kernel_rfl) (by kernel_rfl) (fun _ _ _ h => h) (Or.inl ⟨by kernel_rfl, by intro w hSw; (try dsimp only at hSw); go_simp; try with_reducible rfl⟩) (by assumption) ?_
    simp only [Act.put, List.setIfInBounds_toArray, List.set_cons_zero, List.set_cons_succ]
    refine wpAnyH_take (i := 12) (oi := ⟨some 36, _, _, _, _, _⟩) (v := _) rfl (by kernel_rfl) (by kernel_rfl) (by kernel_rfl) (fun _ _ _ h => h) (Or.inl ⟨by kernel_rfl, by intro w hSw; (try dsimp only at hSw); go_simp; try with_reducible rfl⟩) (by assumption) ?_
    simp only [Act.put, List.setIfInBounds_toArray, List.set_cons_zero, List.set_cons_succ]
    refine wpAnyH_take (i := 13) (oi := ⟨some 37, _, _, _, _, _⟩) (v := _) rfl (by kernel_rfl) (by kernel_rfl) (by kernel_rfl) (fun _ _ _ h => h) (Or.inl ⟨by kernel_rfl, by intro w hSw; (try dsimp only at hSw); go_simp; try with_reducible rfl⟩) (by assumption) ?_
    simp only [Act.put, List.setIfInBounds_toArray, List.set_cons_zero, List.set_cons_succ]
    refine wpAnyH_done (by kernel_rfl) ?_ _
    clear hHeld
    obtain ⟨gN, hA5, hg1, hg2, _⟩ := HCS.out 0 hx1
    subst hA5
    have HCP := Lib.hid (show ∀ j, j < xs.length → w5.cell? ⟨gN, j, none⟩ = some (.pointer (some ⟨X, (idxK (m : Int)).getD j 0, none⟩)) from fun j hj => by
      obtain ⟨g, hA, _, _, cp⟩ := HCS.out j hj
      simp only [Option.some.injEq, Addr.mk.injEq, and_true] at hA
      obtain rfl := hA
      exact cp)
    have HE0 := Lib.hid (show ∀ i, i < 7 → w5.cell? ⟨X, i, none⟩ = some (.int .i64 (gi (evS (m : Int) (xs.map nmL) 0) i)) ∧ w5.frozen? ⟨X, i, none⟩ = false from fun i hi => by
      obtain rfl | rfl | rfl | rfl | rfl | rfl | rfl : i = 0 ∨ i = 1 ∨ i = 2 ∨ i = 3 ∨ i = 4 ∨ i = 5 ∨ i = 6 := by omega
      · exact ⟨e0, fe0⟩
      · exact ⟨e1, fe1⟩
      · exact ⟨e2, fe2⟩
      · exact ⟨e3, fe3⟩
      · exact ⟨e4, fe4⟩
      · exact ⟨e5, fe5⟩
      · exact ⟨e6, fe6⟩)
    have hgX : ¬ gN = X := by omega
    have hX2 : w2.heap.size ≤ X := by omega
    have HWK := Lib.hid (show ∀ j, j < xs.length → w5.cell? ⟨bw, ow + 1 + j, none⟩ = some (.string (TB (gs xs j))) from fun j hj => by
      have h9 := (HW2.out.below HB5.out (Nat.le_refl _)).cell' (k := j + 1) (by simp; omega)
      rw [gs_cons, show ow + (j + 1) = ow + 1 + j by omega] at h9
      exact h9)
    clear e0 e1 e2 e3 e4 e5 e6 fe0 fe1 fe2 fe3 fe4 fe5 fe6 HCS
    go_wp2
    go_loopw [9, 10, 11, 12, 41] (fun _ _ _ _ j wr => ∃ jj : Nat, jj ≤ xs.length ∧ j = .int .i64 jj ∧ Hid (∀ i, i < jj → 0 ≤ nmL (gs xs i)) ∧ Hid (∀ i, i < 7 → wr.cell? ⟨X, i, none⟩ = some (.int .i64 (gi (evS (m : Int) (xs.map nmL) jj) i)) ∧ wr.frozen? ⟨X, i, none⟩ = false) ∧ Hid (Below w2.heap.size w5 wr) ∧ Hid (∀ j, j < xs.length → wr.cell? ⟨gN, j, none⟩ = some (.pointer (some ⟨X, (idxK (m : Int)).getD j 0, none⟩))) ∧ w5.heap.size ≤ wr.heap.size) (fun _ _ _ _ j _ => xs.length - (intOf j).toNat)
    case atStart => exact ⟨0, Nat.zero_le _, rfl, fun i hi => absurd hi (by omega), HE0.out, (Below.refl _ _).drew, HCP.out, Nat.le_refl _⟩
    case round =>
      obtain ⟨j, hj, rfl, HP, HE, HB9, HCP2, hz9⟩ := hrel
      clear HE0 HCP
      obtain ⟨wi, rfl⟩ : ∃ wi : World, wi = wr := ⟨_, rfl⟩
      have c00 := keepC HB9.out hz2 c00
      have f00 := keepF HB9.out hz2 f00
      have c01 := keepC HB9.out hz2 c01
      have f01 := keepF HB9.out hz2 f01
      have c02 := keepC HB9.out hz2 c02
      have f02 := keepF HB9.out hz2 f02
      have c03 := keepC HB9.out hz2 c03
      have f03 := keepF HB9.out hz2 f03
      have c04 := keepC HB9.out hz2 c04
      have f04 := keepF HB9.out hz2 f04
      have c05 := keepC HB9.out hz2 c05
      have f05 := keepF HB9.out hz2 f05
      have c06 := keepC HB9.out hz2 c06
      have f06 := keepF HB9.out hz2 f06
      have HBB := Lib.hid (HB2.out.trans ((HB5.out.trans HB9.out).mono (Nat.le_of_lt hz2)))
      by_cases hjl : j < xs.length
      rotate_left
      · have hnj : ¬ (j : Int) < (xs.length : Int) := by omega
        obtain ⟨E, hE⟩ : ∃ E, E = evS (m : Int) (xs.map nmL) j := ⟨_, rfl⟩
        have hE7 : E.length = 7 := by rw [hE, evS_len]
        have hEr := evS_rng (k := (m : Int)) (ns := xs.map nmL) j (by rw [← HN.out]; exact hj) (fun i hi => by rw [gi_mapnm (by omega)]; exact ⟨HP.out i hi, (nmL_rng _).2⟩)
        have hpar := parE_yes HWE.out (badN_all fun i hi => HP.out i (by omega)) HKT.out
        rw [List.length_map, show xs.length = j by omega] at hpar
        rw [← hE] at HE hEr hpar
        rw [list7 hE7] at hpar
        have a0 := (HE.out 0 (by omega)).1
        have a1 := (HE.out 1 (by omega)).1
        have a2 := (HE.out 2 (by omega)).1
        have a3 := (HE.out 3 (by omega)).1
        have a4 := (HE.out 4 (by omega)).1
        have a5 := (HE.out 5 (by omega)).1
        have a6 := (HE.out 6 (by omega)).1
        have r0 := hEr.1
        have r1 := hEr.2 1 (by omega)
        have r2 := hEr.2 2 (by omega)
        have r3 := hEr.2 3 (by omega)
        have r4 := hEr.2 4 (by omega)
        have r5 := hEr.2 5 (by omega)
        have r6 := hEr.2 6 (by omega)
        obtain ⟨y0, hy0⟩ : ∃ y, y = gi E 0 := ⟨_, rfl⟩
        obtain ⟨y1, hy1⟩ : ∃ y, y = gi E 1 := ⟨_, rfl⟩
        obtain ⟨y2, hy2⟩ : ∃ y, y = gi E 2 := ⟨_, rfl⟩
        obtain ⟨y3, hy3⟩ : ∃ y, y = gi E 3 := ⟨_, rfl⟩
        obtain ⟨y4, hy4⟩ : ∃ y, y = gi E 4 := ⟨_, rfl⟩
        obtain ⟨y5, hy5⟩ : ∃ y, y = gi E 5 := ⟨_, rfl⟩
        obtain ⟨y6, hy6⟩ : ∃ y, y = gi E 6 := ⟨_, rfl⟩
        rw [← hy0, ← hy1, ← hy2, ← hy3, ← hy4, ← hy5, ← hy6] at hpar
        rw [← hy0] at a0 r0
        rw [← hy1] at a1 r1
        rw [← hy2] at a2 r2
        rw [← hy3] at a3 r3
        rw [← hy4] at a4 r4
        rw [← hy5] at a5 r5
        rw [← hy6] at a6 r6
        have HPAR := Lib.hid hpar
        have HR := Lib.hid (show (0 ≤ y0 ∧ y0 ≤ 3) ∧ ∀ x ∈ [y1, y2, y3, y4, y5, y6], 0 ≤ x ∧ x ≤ 999999 from ⟨by omega, fun x hx => by simp only [List.mem_cons, List.not_mem_nil, or_false] at hx; omega⟩)
        clear hpar hE hE7 hEr HE r0 r1 r2 r3 r4 r5 r6 hy0 hy1 hy2 hy3 hy4 hy5 hy6
        go_wp2
        refine bodyPost_ret (v := .tuple #[.agg #[.int .i64 y0, .int .i64 y1, .int .i64 y2, .int .i64 y3, .int .i64 y4, .int .i64 y5, .int .i64 y6], .bool true]) (by simp [results, Tryz.results40, go_sem, *]) rfl ?_
        exact ⟨below7 HBB.out (Nat.le_refl _) _ _ _ _ _ _ _, .inr ⟨y0, y1, y2, y3, y4, y5, y6, HPAR.out, HR.out.1, HR.out.2, rfl⟩⟩
      have j0 : (0 : Int) ≤ (j : Int) := by omega
      have j1 : (j : Int) < (xs.length : Int) := by omega
      have cw9 := keepC HB9.out (show bw < w2.heap.size by omega) (HWK.out j hjl)
      obtain ⟨zj, hzj⟩ : ∃ z, z = TB (gs xs j) := ⟨_, rfl⟩
      have HZJ := Lib.hid hzj
      rw [← hzj] at cw9
      have hxlen : (gs xs j).length ≤ 4294967296 := by have := HML.out (j + 1); rw [gs_cons] at this; omega
      have hjK : j < (idxK (m : Int)).length := by rw [← HN.out]; exact hjl
      have hp7 := idx_lt hjK
      have cq := HCP2.out j hjl
      have HEV := Lib.hid (show evS (m : Int) (xs.map nmL) (j + 1) = (evS (m : Int) (xs.map nmL) j).set ((idxK (m : Int)).getD j 0) (nmL (gs xs j)) by rw [evS, gi_mapnm hjl])
      obtain ⟨p, hp⟩ : ∃ p, p = (idxK (m : Int)).getD j 0 := ⟨_, rfl⟩
      rw [← hp] at hp7 cq HEV
      have cx := (HE.out p hp7).1
      have fx := (HE.out p hp7).2
      have HBAD := Lib.hid (show nmL (gs xs j) < 0 → parE l = none from fun h => parE_bad HWE.out (badN_at hjl h))
      clear hzj hp hjK
      go_wp2_with fail
      refine (parseNumber_any (gs xs j) zj HZJ.out wi hxlen).mono ?_
      rintro e x2 ⟨hx2, hpn⟩
      subst hx2
      rcases hpn with ⟨hneg, rfl⟩ | ⟨hpos, rfl⟩
      · have HNO := Lib.hid (HBAD.out hneg)
        clear HBAD hneg
        go_wp2
        refine bodyPost_ret (v := .tuple #[EvZ, .bool false]) (by simp [results, EvZ, Tryz.results40, go_sem, *]) rfl ?_
        exact ⟨below7 HBB.out (Nat.le_refl _) _ _ _ _ _ _ _, .inl ⟨HNO.out, rfl⟩⟩
      have HP2 := Lib.hid (show ∀ i, i < j + 1 → 0 ≤ nmL (gs xs i) from fun i hi => by
        rcases Nat.lt_or_ge i j with h' | h'
        · exact HP.out i h'
        · obtain rfl : i = j := by omega
          exact hpos)
      obtain ⟨x, hx⟩ : ∃ x, x = nmL (gs xs j) := ⟨_, rfl⟩
      rw [← hx] at HEV ⊢
      have HE2 := Lib.hid (show ∀ i, i < 7 → (wi.setCell ⟨X, p, none⟩ (.int .i64 x)).cell? ⟨X, i, none⟩ = some (.int .i64 (gi (evS (m : Int) (xs.map nmL) (j + 1)) i)) ∧ (wi.setCell ⟨X, p, none⟩ (.int .i64 x)).frozen? ⟨X, i, none⟩ = false from fun i hi => by
        refine ⟨?_, setCell_fz (HE.out i hi).2⟩
        rw [setCell_at (HE.out i hi).1, HEV.out, gi_set7 (by rw [evS_len]; exact hp7)]
        split <;> rfl)
      have HB10 := Lib.hid (HB9.out.setCell (p := ⟨X, p, none⟩) hX2 (.int .i64 x))
      have HCP3 := Lib.hid (show ∀ j, j < xs.length → (wi.setCell ⟨X, p, none⟩ (.int .i64 x)).cell? ⟨gN, j, none⟩ = some (.pointer (some ⟨X, (idxK (m : Int)).getD j 0, none⟩)) from fun j hj => setCell_off hgX (HCP2.out j hj))
      clear HBAD hpos hx HEV
      go_wp2
      go_roundw
      case rel => exact ⟨j + 1, hjl, by go_num, HP2.out, HE2.out, HB10.out, HCP3.out, by simp [World.setCell]; omega⟩
      case measure => simp [intOf]; omega
def zev : List Int := [0, 0, 0, 0, 0, 0, 0]
theorem PePost.form {l : List UInt8} {w w' : World} {e : Ending} (h : PePost l w e w') : Below w.heap.size w w' ∧ ∃ (k a b c d f g : Int) (ok : Bool), e = .returned (.tuple #[.agg #[.int .i64 k, .int .i64 a, .int .i64 b, .int .i64 c, .int .i64 d, .int .i64 f, .int .i64 g], .bool ok]) ∧ [k, a, b, c, d, f, g] = (parE l).getD zev ∧ ok = (parE l).isSome ∧ (∀ x ∈ [k, a, b, c, d, f, g], 0 ≤ x ∧ x ≤ 999999) := by
  obtain ⟨hb, ⟨hn, rfl⟩ | ⟨k, a, b, c, d, f, g, hn, hk, hx, rfl⟩⟩ := h
  · exact ⟨hb, 0, 0, 0, 0, 0, 0, 0, false, rfl, by rw [hn]; rfl, by rw [hn]; rfl, by simp⟩
  · refine ⟨hb, k, a, b, c, d, f, g, true, rfl, by rw [hn]; rfl, by rw [hn]; rfl, fun x hx9 => ?_⟩
    rcases List.mem_cons.1 hx9 with rfl | h9
    · omega
    · exact hx x h9
end Go.Proofs.YtkgepklapglmdaaGreatDoor
