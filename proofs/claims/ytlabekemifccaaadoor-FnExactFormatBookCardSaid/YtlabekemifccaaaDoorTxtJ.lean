/-
  Lemmas and contracts of single functions of this program, used by the proofs of its laws: what each call returns and what becomes of memory. Conditions: the hypotheses of each theorem.
-/
import Derived.Test.YtlabekemifccaaaDoorTxtI
namespace Go.Proofs.YtlabekemifccaaaDoor
open Go.RowKit
attribute [local go_sem ↓] Go.wp_at_zero Go.wp_at_succ

/-! books -/
def fmtJ (evs : List (List Int)) : List UInt8 := evs.flatMap fun e => fmtE e ++ [10]
def okF (evs : List (List Int)) : Bool := evs.all fun e => !(fmtE e).isEmpty
def fmtB (evs : List (List Int)) : List UInt8 := if evs.length ≤ 60 ∧ okF evs = true then fmtJ evs else []
theorem fmtE_lenJ (ev : List Int) : (fmtE ev).length ≤ 100 := by
  unfold fmtE
  split
  · rename_i hall
    have h1 := wrd_len (gi ev 0)
    have h2 : ∀ ns : List Int, (∀ i, i < ns.length → 0 ≤ gi ns i ∧ gi ns i ≤ 999999) → (numsT ns).length ≤ 7 * ns.length := by
      intro ns
      induction ns with
      | nil => intro _; simp [numsT]
      | cons x t ih =>
        intro h
        have h3 := ih fun i hi => by have := h (i + 1) (by simp; omega); exact this
        have h4 : 0 ≤ x ∧ x ≤ 999999 := h 0 (by simp)
        have h5 := (dec_len (n := x.toNat) (by omega)).2
        have h6 : numsT (x :: t) = (32 :: Lib.decDigits x.toNat) ++ numsT t := by simp [numsT]
        rw [h6, List.length_append, List.length_cons, List.length_cons]
        omega
    have h3 := h2 (evN ev) (allR_iff.1 hall)
    have h4 := evN_len ev
    have h5 := idxK_len (gi ev 0)
    rw [List.length_append]
    omega
  · simp
theorem toList_isEmptyJ (z : ByteArray) (l : List UInt8) (h : z = TB l) : z.toList.isEmpty = l.isEmpty := by rw [h, TB_toList]
theorem fmtJ_take {evs : List (List Int)} {k : Nat} (h : k < evs.length) : fmtJ (evs.take (k + 1)) = fmtJ (evs.take k) ++ fmtE (gr evs k) ++ [10] := by
  unfold fmtJ
  rw [List.take_succ_eq_append_getElem h, List.flatMap_append, gr_eq h, List.append_assoc]
  simp
theorem fmtB_no {evs : List (List Int)} {k : Nat} (h : k < evs.length) (he : fmtE (gr evs k) = []) : fmtB evs = [] := by
  unfold fmtB
  rw [if_neg]
  rintro ⟨_, h2⟩
  unfold okF at h2
  rw [List.all_eq_true] at h2
  have := h2 (gr evs k) (by rw [gr_eq h]; exact List.getElem_mem h)
  rw [he] at this
  simp at this
theorem fmtB_long {evs : List (List Int)} (h : 60 < evs.length) : fmtB evs = [] := by unfold fmtB; rw [if_neg]; rintro ⟨h1, _⟩; omega
theorem fmtB_yes {evs : List (List Int)} (h : evs.length ≤ 60) (hk : ∀ k, k < evs.length → fmtE (gr evs k) ≠ []) : fmtB evs = fmtJ evs := by
  unfold fmtB
  rw [if_pos]
  refine ⟨h, ?_⟩
  unfold okF
  rw [List.all_eq_true]
  intro e he
  obtain ⟨k, hk', rfl⟩ := List.mem_iff_getElem.1 he
  have := hk k hk'
  rw [gr_eq hk'] at this
  simpa using this
theorem row7 {w : World} {lo hi : Nat} {v : Value} {evs : List (List Int)} (h : TS w lo hi 7 v evs) {k : Nat} (hk : k < evs.length) : gr evs k = [gi (gr evs k) 0, gi (gr evs k) 1, gi (gr evs k) 2, gi (gr evs k) 3, gi (gr evs k) 4, gi (gr evs k) 5, gi (gr evs k) 6] ∧ ∀ x ∈ gr evs k, I64 x := by
  have h1 := h.all (gr evs k) (by rw [gr_eq hk]; exact List.getElem_mem hk)
  exact ⟨list7 h1.1, h1.2⟩
set_option maxRecDepth 100000 in
set_option maxHeartbeats 2000000 in
theorem FormatBookS_any (lo hi : Nat) (v : Value) (evs : List (List Int)) (w : World) (h : TS w lo hi 7 v evs) (hhi : hi ≤ w.heap.size) :
    Calls Tryd.prog 18 #[v] w fun e w' => e = .returned (.string (TB (fmtB evs))) ∧ Below w.heap.size w w' := by
  obtain ⟨A, c, rfl, hc, hm⟩ := h.form
  obtain ⟨R, hR⟩ : ∃ R, R = fmtB evs := ⟨_, rfl⟩
  rw [← hR]
  have HR := Lib.hid hR
  have HH := Lib.hid h
  clear hR h
  by_cases hl : 60 < evs.length
  · have hl' : (60 : Int) < (evs.length : Int) := by omega
    have HE := Lib.hid (show R = [] by rw [HR.out, fmtB_long hl])
    go_enter Tryd.func18, Tryd.ntmps18
    go_wp2
    go_ret
    exact ⟨by rw [HE.out]; rfl, Below.refl _ _⟩
  have hl' : ¬ (60 : Int) < (evs.length : Int) := by omega
  go_enter Tryd.func18, Tryd.ntmps18
  go_wp2
  go_loopw [3, 4] (fun o i wr => ∃ (k : Nat) (z : ByteArray), k ≤ evs.length ∧ i = .int .i64 k ∧ o = .string z ∧ z.size ≤ 101 * k ∧ Hid (z = TB (fmtJ (evs.take k))) ∧ Hid (∀ j, j < k → fmtE (gr evs j) ≠ []) ∧ Hid (Below w.heap.size w wr)) (fun _ i _ => evs.length - (intOf i).toNat)
  case atStart => exact ⟨0, TB [], Nat.zero_le _, rfl, rfl, by rw [TB_size]; simp, rfl, fun j hj => absurd hj (by omega), Below.refl _ _⟩
  case round =>
    obtain ⟨k, z, hk, rfl, rfl, hzs, HZ, HD, HB⟩ := hrel
    obtain ⟨wo, rfl⟩ : ∃ wo : World, wo = wr := ⟨_, rfl⟩
    have hzo := HB.out.size
    by_cases hlt : k < evs.length
    rotate_left
    · have hnk : ¬ (k : Int) < (evs.length : Int) := by omega
      have HE := Lib.hid (show z = TB R by rw [HZ.out, HR.out, fmtB_yes (by omega) (fun j hj => HD.out j (by omega)), List.take_of_length_le (by omega)])
      go_wp2
      go_ret
      exact ⟨by rw [← HE.out]; rfl, HB.out⟩
    have k0 : (0 : Int) ≤ (k : Int) := by omega
    have k1 : (k : Int) < (evs.length : Int) := by omega
    obtain ⟨b, o, hA, hb1, hb2, c0, c1, c2, c3, c4, c5, c6⟩ := (HH.out.below HB.out hhi).c7 hlt
    subst hA
    obtain ⟨hrow, hi64⟩ := row7 HH.out hlt
    have HEMP := Lib.hid (show fmtE (gr evs k) = [] → R = [] from fun h9 => by rw [HR.out, fmtB_no hlt h9])
    have HTK := Lib.hid (fmtJ_take hlt)
    have HD2 := Lib.hid (show fmtE (gr evs k) ≠ [] → ∀ j, j < k + 1 → fmtE (gr evs j) ≠ [] from fun h9 j hj => by
      rcases Nat.lt_or_ge j k with h' | h'
      · exact HD.out j h'
      · obtain rfl : j = k := by omega
        exact h9)
    obtain ⟨ev, hev⟩ : ∃ ev, ev = gr evs k := ⟨_, rfl⟩
    rw [← hev] at c0 c1 c2 c3 c4 c5 c6 hrow hi64 HEMP HTK HD2
    obtain ⟨x0, hx0⟩ : ∃ x, x = gi ev 0 := ⟨_, rfl⟩
    obtain ⟨x1, hx1⟩ : ∃ x, x = gi ev 1 := ⟨_, rfl⟩
    obtain ⟨x2, hx2⟩ : ∃ x, x = gi ev 2 := ⟨_, rfl⟩
    obtain ⟨x3, hx3⟩ : ∃ x, x = gi ev 3 := ⟨_, rfl⟩
    obtain ⟨x4, hx4⟩ : ∃ x, x = gi ev 4 := ⟨_, rfl⟩
    obtain ⟨x5, hx5⟩ : ∃ x, x = gi ev 5 := ⟨_, rfl⟩
    obtain ⟨x6, hx6⟩ : ∃ x, x = gi ev 6 := ⟨_, rfl⟩
    rw [← hx0, ← hx1, ← hx2, ← hx3, ← hx4, ← hx5, ← hx6] at hrow
    rw [← hx0] at c0
    rw [← hx1] at c1
    rw [← hx2] at c2
    rw [← hx3] at c3
    rw [← hx4] at c4
    rw [← hx5] at c5
    rw [← hx6] at c6
    have HROW := Lib.hid hrow
    have HI := Lib.hid hi64
    obtain ⟨T, hT⟩ : ∃ T, T = fmtE ev := ⟨_, rfl⟩
    have hTl : T.length ≤ 100 := by rw [hT]; exact fmtE_lenJ ev
    have HT := Lib.hid hT
    rw [← hT] at HEMP HTK HD2
    obtain ⟨zt, hzt⟩ : ∃ z, z = TB T := ⟨_, rfl⟩
    have HZT := Lib.hid hzt
    have HZI := Lib.hid (toList_isEmptyJ zt T hzt)
    have hzts : zt.size ≤ 100 := by rw [hzt, TB_size]; exact hTl
    clear hev hx0 hx1 hx2 hx3 hx4 hx5 hx6 hrow hi64 hT hzt hTl
    go_wp2_with fail
    refine (showEvent_any x0 x1 x2 x3 x4 x5 x6 wo ev HROW.out HI.out).mono ?_
    rw [← HT.out, ← HZT.out]
    rintro e w3 ⟨rfl, b3⟩
    have HB3 := Lib.hid (HB.out.trans (b3.mono hzo))
    have hz3 := b3.size
    cases hem : T.isEmpty
    rotate_left
    · have q1 : zt.toList.isEmpty = true := by rw [HZI.out, hem]
      have HE := Lib.hid (HEMP.out (by simpa using hem))
      clear hem b3 HEMP HD2
      go_wp2
      go_ret
      exact ⟨by rw [HE.out]; rfl, HB3.out⟩
    have q1 : zt.toList.isEmpty = false := by rw [HZI.out, hem]
    have HD3 := Lib.hid (HD2.out (fun e => by rw [e] at hem; exact absurd hem (by simp)))
    replace c0 := keepB b3 c0; replace c1 := keepB b3 c1; replace c2 := keepB b3 c2; replace c3 := keepB b3 c3; replace c4 := keepB b3 c4; replace c5 := keepB b3 c5; replace c6 := keepB b3 c6
    obtain ⟨z1, hz1⟩ : ∃ z1, z1 = z ++ zt := ⟨_, rfl⟩
    have hz1e : z ++ zt = z1 := hz1.symm
    have hz1s : z1.size ≤ 101 * k + 100 := by rw [hz1, ByteArray.size_append]; omega
    have h10 : (ByteArray.mk #[10]).size = 1 := rfl
    have hsa : z.size + zt.size ≤ 9223372036854775807 := by omega
    obtain ⟨z2, hz2⟩ : ∃ z2, z2 = z1 ++ (ByteArray.mk #[10]) := ⟨_, rfl⟩
    have hz2e : z1 ++ (ByteArray.mk #[10]) = z2 := hz2.symm
    have hz2s : z2.size ≤ 101 * (k + 1) := by rw [hz2, ByteArray.size_append]; omega
    have hsb : z1.size + (ByteArray.mk #[10]).size ≤ 9223372036854775807 := by omega
    have HZ2 := Lib.hid (show z2 = TB (fmtJ (evs.take (k + 1))) by rw [hz2, hz1, HZ.out, HZT.out, TB_app, show (ByteArray.mk #[10]) = TB [10] from rfl, TB_app, HTK.out])
    clear hem b3 HEMP HD2 hz1 hz2 h10
    go_wp2_with fail
    refine (showEvent_any x0 x1 x2 x3 x4 x5 x6 w3 ev HROW.out HI.out).mono ?_
    rw [← HT.out, ← HZT.out]
    rintro e w4 ⟨rfl, b4⟩
    have HB4 := Lib.hid (HB3.out.trans (b4.mono (by omega)))
    clear b4
    go_wp2
    go_roundw
    case rel => exact ⟨k + 1, z2, hlt, by go_num, rfl, hz2s, HZ2.out, HD3.out, HB4.out⟩
    case measure => simp [intOf]; omega
/-! strings.Builder -/
theorem tBld : (Tryd.prog.info? 72).map (·.size) = some 2 := by kernel_rfl
theorem tBldL : liesAt Tryd.prog Tryd.prog.depth 72 (2 / Tryd.prog.cellsOf 72) 0 72 1 = true := by kernel_rfl
set_option maxRecDepth 100000 in
theorem copyCheck_any (B b : Nat) (bs : List Value) (w : World) (h : Lib.IsBuilder 72 5 B b bs w) :
    Calls Tryd.prog 75 #[.pointer (some ⟨b, 0, none⟩)] w fun e w' => e = .returned (.tuple #[]) ∧ Lib.BuilderAt 72 5 B b (.pointer (some ⟨b, 0, none⟩)) bs w' ∧ Below B w w' := by
  obtain ⟨j, hj, hjs⟩ := Option.map_eq_some_iff.1 tBld
  rcases h with h | h
  · have h0 := h.cell0
    have hsh := h.shape
    have hfz := h.frozen0
    have HH := Lib.hid h
    clear h
    go_enter Tryd.func75, Tryd.ntmps75
    go_wp2
    rw [Lib.run_to_unsafe w ⟨b, 0, none⟩ Tryd.underlying70 Tryd.underlying139 hj (by rw [hjs]; decide) hsh (Nat.zero_lt_succ 1)]
    simp only [Result.andThen]
    rw [Oper.upon_value]
    go_wp2
    rw [run_callFunc_extern Tryd.func102 (by kernel_rfl) (by kernel_rfl) (by kernel_rfl) (e := Extern.AbiNoEscape.same) (by kernel_rfl)]
    rw [Lib.run_noEscape]
    simp only [Result.andThen]
    rw [Oper.upon_value]
    go_wp2
    rw [Lib.run_from_unsafe w ⟨b, 0, none⟩ Tryd.underlying139 Tryd.underlying70 hj hsh tBldL]
    simp only [Result.andThen]
    rw [Oper.upon_value]
    go_wp2
    go_end0
    exact ⟨rfl, HH.out.used _, (Below.refl B w).setCell (p := ⟨b, 0, none⟩) HH.out.1 _⟩
  · have h0 := h.cell0
    have HH := Lib.hid h
    clear h
    go_enter Tryd.func75, Tryd.ntmps75
    go_wp2
    rw [Lib.run_neq_ptr_same w _ Tryd.underlying70 hj]
    go_wp2
    go_end0
    exact ⟨rfl, HH.out, Below.refl B _⟩
theorem SlBy : SlT Tryd.prog 45 5 (.int .u8 0) 1 1 := ⟨Tryd.underlying45, by kernel_rfl, rfl, by omega⟩
end Go.Proofs.YtlabekemifccaaaDoor
