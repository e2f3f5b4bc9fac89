/-
  Texts merged into one: what each function does, and plain lemmas. No condition.
-/
import Derived.Test.YtkgepklapglmdaaGreatDoorTxtI
namespace Go.Proofs.YtkgepklapglmdaaGreatDoor
open Go.RowKit
attribute [local go_sem ↓] Go.wp_at_zero Go.wp_at_succ

/-! books -/
def fmtJ (evs : List (List Int)) : List UInt8 := evs.flatMap fun e => fmtE e ++ [10]
def okF (evs : List (List Int)) : Bool := evs.all fun e => !(fmtE e).isEmpty
def fmtB (evs : List (List Int)) : List UInt8 := if evs.length ≤ 60 ∧ okF evs = true then fmtJ evs else []
theorem fmtE_lenJ (ev : List Int) : (fmtE ev).length ≤ 100 := by
  unfold fmtE
  split
  · rename_i hall
    have h1 := wrd_len (gi ev 0)
    have h2 : ∀ ns : List Int, (∀ i, i < ns.length → 0 ≤ gi ns i ∧ gi ns i ≤ 999999) → (numsT ns).length ≤ 7 * ns.length := by
      intro ns
      induction ns with
      | nil => intro _; simp [numsT]
      | cons x t ih =>
        intro h
        have h3 := ih fun i hi => by have := h (i + 1) (by simp; omega); exact this
        have h4 : 0 ≤ x ∧ x ≤ 999999 := h 0 (by simp)
        have h5 := (dec_len (n := x.toNat) (by omega)).2
        have h6 : numsT (x :: t) = (32 :: Lib.decDigits x.toNat) ++ numsT t := by simp [numsT]
        rw [h6, List.length_append, List.length_cons, List.length_cons]
        omega
    have h3 := h2 (evN ev) (allR_iff.1 hall)
    have h4 := evN_len ev
    have h5 := idxK_len (gi ev 0)
    rw [List.length_append]
    omega
  · simp
theorem toList_isEmptyJ (z : ByteArray) (l : List UInt8) (h : z = TB l) : z.toList.isEmpty = l.isEmpty := by rw [h, TB_toList]
theorem fmtJ_take {evs : List (List Int)} {k : Nat} (h : k < evs.length) : fmtJ (evs.take (k + 1)) = fmtJ (evs.take k) ++ fmtE (gr evs k) ++ [10] := by
  unfold fmtJ
  rw [List.take_succ_eq_append_getElem h, List.flatMap_append, gr_eq h, List.append_assoc]
  simp
theorem fmtB_no {evs : List (List Int)} {k : Nat} (h : k < evs.length) (he : fmtE (gr evs k) = []) : fmtB evs = [] := by
  unfold fmtB
  rw [if_neg]
  rintro ⟨_, h2⟩
  unfold okF at h2
  rw [List.all_eq_true] at h2
  have := h2 (gr evs k) (by rw [gr_eq h]; exact List.getElem_mem h)
  rw [he] at this
  simp at this
theorem fmtB_long {evs : List (List Int)} (h : 60 < evs.length) : fmtB evs = [] := by unfold fmtB; rw [if_neg]; rintro ⟨h1, _⟩; omega
theorem fmtB_yes {evs : List (List Int)} (h : evs.length ≤ 60) (hk : ∀ k, k < evs.length → fmtE (gr evs k) ≠ []) : fmtB evs = fmtJ evs := by
  unfold fmtB
  rw [if_pos]
  refine ⟨h, ?_⟩
  unfold okF
  rw [List.all_eq_true]
  intro e he
  obtain ⟨k, hk', rfl⟩ := List.mem_iff_getElem.1 he
  have := hk k hk'
  rw [gr_eq hk'] at this
  simpa using this
theorem row7 {w : World} {lo hi : Nat} {v : Value} {evs : List (List Int)} (h : TS w lo hi 7 v evs) {k : Nat} (hk : k < evs.length) : gr evs k = [gi (gr evs k) 0, gi (gr evs k) 1, gi (gr evs k) 2, gi (gr evs k) 3, gi (gr evs k) 4, gi (gr evs k) 5, gi (gr evs k) 6] ∧ ∀ x ∈ gr evs k, I64 x := by
  have h1 := h.all (gr evs k) (by rw [gr_eq hk]; exact List.getElem_mem hk)
  exact ⟨list7 h1.1, h1.2⟩
set_option maxRecDepth 100000 in
set_option maxHeartbeats 2000000 in
theorem FormatBookS_any (lo hi : Nat) (v : Value) (evs : List (List Int)) (w : World) (h : TS w lo hi 7 v evs) (hhi : hi ≤ w.heap.size) :
    Calls Tryz.prog 95 #[v] w fun e w' => e = .returned (.string (TB (fmtB evs))) ∧ Below w.heap.size w w' := by
  obtain ⟨A, c, rfl, hc, hm⟩ := h.form
  obtain ⟨R, hR⟩ : ∃ R, R = fmtB evs := ⟨_, rfl⟩
  rw [← hR]
  have HR := Lib.hid hR
  have HH := Lib.hid h
  clear hR h
  by_cases hl : 60 < evs.length
  · have hl' : (60 : Int) < (evs.length : Int) := by omega
    have HE := Lib.hid (show R = [] by rw [HR.out, fmtB_long hl])
    go_enter Tryz.func95, Tryz.ntmps95
    go_wp2
    go_ret
    exact ⟨by rw [HE.out]; rfl, Below.refl _ _⟩
  have hl' : ¬ (60 : Int) < (evs.length : Int) := by omega
  go_enter Tryz.func95, Tryz.ntmps95
  go_wp2
  go_loopw [3, 4] (fun o i wr => ∃ (k : Nat) (z : ByteArray), k ≤ evs.length ∧ i = .int .i64 k ∧ o = .string z ∧ z.size ≤ 101 * k ∧ Hid (z = TB (fmtJ (evs.take k))) ∧ Hid (∀ j, j < k → fmtE (gr evs j) ≠ []) ∧ Hid (Below w.heap.size w wr)) (fun _ i _ => evs.length - (intOf i).toNat)
  case atStart => exact ⟨0, TB [], Nat.zero_le _, rfl, rfl, by rw [TB_size]; simp, rfl, fun j hj => absurd hj (by omega), Below.refl _ _⟩
  case round =>
    obtain ⟨k, z, hk, rfl, rfl, hzs, HZ, HD, HB⟩ := hrel
    obtain ⟨wo, rfl⟩ : ∃ wo : World, wo = wr := ⟨_, rfl⟩
    have hzo := HB.out.size
    by_cases hlt : k < evs.length
    rotate_left
    · have hnk : ¬ (k : Int) < (evs.length : Int) := by omega
      have HE := Lib.hid (show z = TB R by rw [HZ.out, HR.out, fmtB_yes (by omega) (fun j hj => HD.out j (by omega)), List.take_of_length_le (by omega)])
      go_wp2
      go_ret
      exact ⟨by rw [← HE.out]; rfl, HB.out⟩
    have k0 : (0 : Int) ≤ (k : Int) := by omega
    have k1 : (k : Int) < (evs.length : Int) := by omega
    obtain ⟨b, o, hA, hb1, hb2, c0, c1, c2, c3, c4, c5, c6⟩ := (HH.out.below HB.out hhi).c7 hlt
    subst hA
    obtain ⟨hrow, hi64⟩ := row7 HH.out hlt
    have HEMP := Lib.hid (show fmtE (gr evs k) = [] → R = [] from fun h9 => by rw [HR.out, fmtB_no hlt h9])
    have HTK := Lib.hid (fmtJ_take hlt)
    have HD2 := Lib.hid (show fmtE (gr evs k) ≠ [] → ∀ j, j < k + 1 → fmtE (gr evs j) ≠ [] from fun h9 j hj => by
      rcases Nat.lt_or_ge j k with h' | h'
      · exact HD.out j h'
      · obtain rfl : j = k := by omega
        exact h9)
    obtain ⟨ev, hev⟩ : ∃ ev, ev = gr evs k := ⟨_, rfl⟩
    rw [← hev] at c0 c1 c2 c3 c4 c5 c6 hrow hi64 HEMP HTK HD2
    obtain ⟨x0, hx0⟩ : ∃ x, x = gi ev 0 := ⟨_, rfl⟩
    obtain ⟨x1, hx1⟩ : ∃ x, x = gi ev 1 := ⟨_, rfl⟩
    obtain ⟨x2, hx2⟩ : ∃ x, x = gi ev 2 := ⟨_, rfl⟩
    obtain ⟨x3, hx3⟩ : ∃ x, x = gi ev 3 := ⟨_, rfl⟩
    obtain ⟨x4, hx4⟩ : ∃ x, x = gi ev 4 := ⟨_, rfl⟩
    obtain ⟨x5, hx5⟩ : ∃ x, x = gi ev 5 := ⟨_, rfl⟩
    obtain ⟨x6, hx6⟩ : ∃ x, x = gi ev 6 := ⟨_, rfl⟩
    rw [← hx0, ← hx1, ← hx2, ← hx3, ← hx4, ← hx5, ← hx6] at hrow
    rw [← hx0] at c0
    rw [← hx1] at c1
    rw [← hx2] at c2
    rw [← hx3] at c3
    rw [← hx4] at c4
    rw [← hx5] at c5
    rw [← hx6] at c6
    have HROW := Lib.hid hrow
    have HI := Lib.hid hi64
    obtain ⟨T, hT⟩ : ∃ T, T = fmtE ev := ⟨_, rfl⟩
    have hTl : T.length ≤ 100 := by rw [hT]; exact fmtE_lenJ ev
    have HT := Lib.hid hT
    rw [← hT] at HEMP HTK HD2
    obtain ⟨zt, hzt⟩ : ∃ z, z = TB T := ⟨_, rfl⟩
    have HZT := Lib.hid hzt
    have HZI := Lib.hid (toList_isEmptyJ zt T hzt)
    have hzts : zt.size ≤ 100 := by rw [hzt, TB_size]; exact hTl
    clear hev hx0 hx1 hx2 hx3 hx4 hx5 hx6 hrow hi64 hT hzt hTl
    go_wp2_with fail
    refine (showEvent_any x0 x1 x2 x3 x4 x5 x6 wo ev HROW.out HI.out).mono ?_
    rw [← HT.out, ← HZT.out]
    rintro e w3 ⟨rfl, b3⟩
    have HB3 := Lib.hid (HB.out.trans (b3.mono hzo))
    have hz3 := b3.size
    cases hem : T.isEmpty
    rotate_left
    · have q1 : zt.toList.isEmpty = true := by rw [HZI.out, hem]
      have HE := Lib.hid (HEMP.out (by simpa using hem))
      clear hem b3 HEMP HD2
      go_wp2
      go_ret
      exact ⟨by rw [HE.out]; rfl, HB3.out⟩
    have q1 : zt.toList.isEmpty = false := by rw [HZI.out, hem]
    have HD3 := Lib.hid (HD2.out (fun e => by rw [e] at hem; exact absurd hem (by simp)))
    replace c0 := keepB b3 c0; replace c1 := keepB b3 c1; replace c2 := keepB b3 c2; replace c3 := keepB b3 c3; replace c4 := keepB b3 c4; replace c5 := keepB b3 c5; replace c6 := keepB b3 c6
    obtain ⟨z1, hz1⟩ : ∃ z1, z1 = z ++ zt := ⟨_, rfl⟩
    have hz1e : z ++ zt = z1 := hz1.symm
    have hz1s : z1.size ≤ 101 * k + 100 := by rw [hz1, ByteArray.size_append]; omega
    have h10 : (ByteArray.mk #[10]).size = 1 := rfl
    have hsa : z.size + zt.size ≤ 9223372036854775807 := by omega
    obtain ⟨z2, hz2⟩ : ∃ z2, z2 = z1 ++ (ByteArray.mk #[10]) := ⟨_, rfl⟩
    have hz2e : z1 ++ (ByteArray.mk #[10]) = z2 := hz2.symm
    have hz2s : z2.size ≤ 101 * (k + 1) := by rw [hz2, ByteArray.size_append]; omega
    have hsb : z1.size + (ByteArray.mk #[10]).size ≤ 9223372036854775807 := by omega
    have HZ2 := Lib.hid (show z2 = TB (fmtJ (evs.take (k + 1))) by rw [hz2, hz1, HZ.out, HZT.out, TB_app, show (ByteArray.mk #[10]) = TB [10] from rfl, TB_app, HTK.out])
    clear hem b3 HEMP HD2 hz1 hz2 h10
    go_wp2_with fail
    refine (showEvent_any x0 x1 x2 x3 x4 x5 x6 w3 ev HROW.out HI.out).mono ?_
    rw [← HT.out, ← HZT.out]
    rintro e w4 ⟨rfl, b4⟩
    have HB4 := Lib.hid (HB3.out.trans (b4.mono (by omega)))
    clear b4
    go_wp2
    go_roundw
    case rel => exact ⟨k + 1, z2, hlt, by go_num, rfl, hz2s, HZ2.out, HD3.out, HB4.out⟩
    case measure => simp [intOf]; omega
/-! strings.Builder -/
theorem tBld : (Tryz.prog.info? 79).map (·.size) = some 2 := by kernel_rfl
theorem tBldL : liesAt Tryz.prog Tryz.prog.depth 79 (2 / Tryz.prog.cellsOf 79) 0 79 1 = true := by kernel_rfl
set_option maxRecDepth 100000 in
theorem copyCheck_any (B b : Nat) (bs : List Value) (w : World) (h : Lib.IsBuilder 79 5 B b bs w) :
    Calls Tryz.prog 82 #[.pointer (some ⟨b, 0, none⟩)] w fun e w' => e = .returned (.tuple #[]) ∧ Lib.BuilderAt 79 5 B b (.pointer (some ⟨b, 0, none⟩)) bs w' ∧ Below B w w' := by
  obtain ⟨j, hj, hjs⟩ := Option.map_eq_some_iff.1 tBld
  rcases h with h | h
  · have h0 := h.cell0
    have hsh := h.shape
    have hfz := h.frozen0
    have HH := Lib.hid h
    clear h
    go_enter Tryz.func82, Tryz.ntmps82
    go_wp2
    rw [Lib.run_to_unsafe w ⟨b, 0, none⟩ Tryz.underlying77 Tryz.underlying147 hj (by rw [hjs]; decide) hsh (Nat.zero_lt_succ 1)]
    simp only [Result.andThen]
    rw [Oper.upon_value]
    go_wp2
    rw [run_callFunc_extern Tryz.func113 (by kernel_rfl) (by kernel_rfl) (by kernel_rfl) (e := Extern.AbiNoEscape.same) (by kernel_rfl)]
    rw [Lib.run_noEscape]
    simp only [Result.andThen]
    rw [Oper.upon_value]
    go_wp2
    rw [Lib.run_from_unsafe w ⟨b, 0, none⟩ Tryz.underlying147 Tryz.underlying77 hj hsh tBldL]
    simp only [Result.andThen]
    rw [Oper.upon_value]
    go_wp2
    go_end0
    exact ⟨rfl, HH.out.used _, (Below.refl B w).setCell (p := ⟨b, 0, none⟩) HH.out.1 _⟩
  · have h0 := h.cell0
    have HH := Lib.hid h
    clear h
    go_enter Tryz.func82, Tryz.ntmps82
    go_wp2
    rw [Lib.run_neq_ptr_same w _ Tryz.underlying77 hj]
    go_wp2
    go_end0
    exact ⟨rfl, HH.out, Below.refl B _⟩
theorem SlBy : SlT Tryz.prog 22 5 (.int .u8 0) 1 1 := ⟨Tryz.underlying22, by kernel_rfl, rfl, by omega⟩
end Go.Proofs.YtkgepklapglmdaaGreatDoor

namespace Go.Proofs.YtkgepklapglmdaaGreatDoor
open Go.RowKit
attribute [local go_sem ↓] Go.wp_at_zero Go.wp_at_succ

/-- a builder in block b that holds the bytes l -/
def Bld (B b : Nat) (l : List UInt8) (w : World) : Prop := Lib.IsBuilder 79 5 B b (Lib.byteCells l) w
theorem byteCells_app (a b : List UInt8) : Lib.byteCells (a ++ b) = Lib.byteCells a ++ Lib.byteCells b := by simp [Lib.byteCells]
theorem byteCells_len (a : List UInt8) : (Lib.byteCells a).length = a.length := by simp [Lib.byteCells]
theorem bldAt_below {T e B b : Nat} {p : Value} {bs : List Value} {w w' : World} (h : Lib.BuilderAt T e B b p bs w) (hb : Below w.heap.size w w') : Lib.BuilderAt T e B b p bs w' := by
  obtain ⟨hB, v, hbk, hown, hne⟩ := h
  have hlt : b < w.heap.size := Lib.BuilderAt.lt ⟨hB, v, hbk, hown, hne⟩
  exact ⟨hB, v, (hb.block b hlt).trans hbk, ownsRow_keptBlock hown fun g hg => hb.block g (hown.lt g hg).2, hne⟩
theorem Bld.below {B b : Nat} {l : List UInt8} {w w' : World} (h : Bld B b l w) (hb : Below w.heap.size w w') : Bld B b l w' := by
  rcases h with h | h
  · exact .inl (bldAt_below h hb)
  · exact .inr (bldAt_below h hb)
theorem Bld.fresh (w : World) : Bld w.heap.size w.heap.size [] (w.alloc (.cells #[.pointer none, .slice none 0 0] 79)) :=
  .inl ⟨Nat.le_refl _, .slice none 0 0, heap_alloc_new w _, World.ownsRow_nil _ _ _ _, by simp [Value.ownBlock]⟩
set_option maxRecDepth 100000 in
set_option maxHeartbeats 2000000 in
theorem WriteString_any (B b : Nat) (l m : List UInt8) (s : ByteArray) (hs : s = TB m) (w : World) (h : Bld B b l w) (hlen : l.length + m.length ≤ 1000000) (hBw : B ≤ w.heap.size) :
    Calls Tryz.prog 42 #[.pointer (some ⟨b, 0, none⟩), .string s] w fun e w' => e = .returned (.tuple #[.int .i64 s.size, .nilIface]) ∧ Bld B b (l ++ m) w' ∧ Below B w w' := by
  obtain ⟨i0, hi, hz0, hz1, hz2⟩ := info_parts SlBy.hi
  have HSC := Lib.hid (show Lib.byteCells l ++ Lib.strCells s = Lib.byteCells (l ++ m) by rw [byteCells_app, hs]; rfl)
  have hsm : s.size = m.length := by rw [hs, TB_size]
  have hbl := byteCells_len l
  have HSM := Lib.hid hsm
  have HBL := Lib.hid hbl
  clear hsm hs hbl
  go_enter Tryz.func42, Tryz.ntmps42
  go_wp2_with fail
  refine (copyCheck_any B b _ w h).mono ?_
  rintro e w1 ⟨rfl, h1, hb1⟩
  obtain ⟨hB, v, hbk, hown, hne⟩ := h1
  have c0 : w1.cell? ⟨b, 0, none⟩ = some (.pointer (some ⟨b, 0, none⟩)) := by rw [Lib.cell_of_heap hbk]; rfl
  have c1 : w1.cell? ⟨b, 1, none⟩ = some v := by rw [Lib.cell_of_heap hbk]; rfl
  have hsz1 := hb1.size
  go_wp2_with (at_builtin; refine Lib.wpList_append_own_string _ rfl _ _ 22 9 rfl B 5 i0 Tryz.underlying22 Tryz.underlying9 hi hz0 hz1 hz2 _ _ _ rfl hown s rfl ?c3 ?c4 ?c5 ?_)
  case c3 => have := HSM.out; have := HBL.out; unfold maxLen; omega
  case c4 => have := HSM.out; have := HBL.out; omega
  case c5 => omega
  intro v' w2 hown' hgrow _
  have hlt : b < w1.heap.size := by
    rcases Nat.lt_or_ge b w1.heap.size with h' | h'
    · exact h'
    · simp [Array.getElem?_eq_none h'] at hbk
  have hb2 : w2.heap[b]? = some (.cells #[.pointer (some ⟨b, 0, none⟩), v] 79 (0, 0)) := by
    rw [hgrow.block b hlt (fun e => hne e.symm)]
    exact hbk
  have d0 : w2.cell? ⟨b, 0, none⟩ = some (.pointer (some ⟨b, 0, none⟩)) := by rw [Lib.cell_of_heap hb2]; rfl
  have d1 : w2.cell? ⟨b, 1, none⟩ = some v := by rw [Lib.cell_of_heap hb2]; rfl
  have f1 : w2.frozen? ⟨b, 1, none⟩ = false := Lib.frozen_of_heap hb2 1
  obtain ⟨ao, n', cap, rfl⟩ : ∃ ao n' cap, v' = .slice ao n' cap := by
    rcases hown'.2 with ⟨hv, _⟩ | ⟨g, cap, cur, hv, _⟩
    · exact ⟨_, _, _, hv⟩
    · exact ⟨_, _, _, hv⟩
  have HP := Lib.hid (show Lib.BuilderAt 79 5 B b (.pointer (some ⟨b, 0, none⟩)) (Lib.byteCells (l ++ m)) (w2.setCell ⟨b, 1, none⟩ (.slice ao n' cap)) by
    rw [← HSC.out]
    exact Lib.BuilderAt.put (T := 79) (e := 5) hB hb2 (bs' := Lib.byteCells l ++ Lib.strCells s) (by simpa [Lib.strCells_length] using hown') (by decide))
  have HB9 := Lib.hid ((hb1.grown hgrow (by omega) (fun k hk => (hown.lt k hk).1)).setCell (p := ⟨b, 1, none⟩) hB (.slice ao n' cap))
  clear hown hown' hgrow hbk hb2 hne
  go_wp2
  go_ret2
  exact ⟨rfl, .inr HP.out, HB9.out⟩
set_option maxRecDepth 100000 in
set_option maxHeartbeats 2000000 in
theorem WriteByte_any (B b : Nat) (l : List UInt8) (c : UInt8) (cv : Int) (hcv : cv = (c.toNat : Int)) (w : World) (h : Bld B b l w) (hlen : l.length ≤ 1000000) (hBw : B ≤ w.heap.size) :
    Calls Tryz.prog 43 #[.pointer (some ⟨b, 0, none⟩), .int .u8 cv] w fun e w' => e = .returned .nilIface ∧ Bld B b (l ++ [c]) w' ∧ Below B w w' := by
  obtain ⟨i0, hi, hz0, hz1, hz2⟩ := info_parts SlBy.hi
  have HSC := Lib.hid (show Lib.byteCells l ++ [.int .u8 cv] = Lib.byteCells (l ++ [c]) by rw [byteCells_app, hcv]; rfl)
  have HBL := Lib.hid (byteCells_len l)
  clear hcv
  go_enter Tryz.func43, Tryz.ntmps43
  go_wp2_with fail
  refine (copyCheck_any B b _ w h).mono ?_
  rintro e w1 ⟨rfl, h1, hb1⟩
  obtain ⟨hB, v, hbk, hown, hne⟩ := h1
  have c0 : w1.cell? ⟨b, 0, none⟩ = some (.pointer (some ⟨b, 0, none⟩)) := by rw [Lib.cell_of_heap hbk]; rfl
  have c1 : w1.cell? ⟨b, 1, none⟩ = some v := by rw [Lib.cell_of_heap hbk]; rfl
  have hsz1 := hb1.size
  go_wp2_with (at_builtin; refine wpList_append_own _ rfl _ _ 22 rfl B 5 i0 (.int .u8 0) 1 1 Tryz.underlying22 hi hz0 hz1 hz2 rfl (by decide) _ _ _ rfl (hown.alloc _) ⟨w1.heap.size, 0, none⟩ 1 1 [.int .u8 cv] rfl rfl ?c1 ?c2 ?c3 ?c4 ?c5 ?_)
  case c1 =>
    intro j u hj
    match j, hj with
    | 0, hj => simp at hj; subst hj; simp [Addr.add]
  case c2 => intro u hu; simp at hu; subst hu; rfl
  case c3 => have := HBL.out; unfold maxLen; omega
  case c4 => have := HBL.out; omega
  case c5 => simp; omega
  intro v' w2 hown' hgrow _
  have hlt : b < w1.heap.size := by
    rcases Nat.lt_or_ge b w1.heap.size with h' | h'
    · exact h'
    · simp [Array.getElem?_eq_none h'] at hbk
  have hb2 : w2.heap[b]? = some (.cells #[.pointer (some ⟨b, 0, none⟩), v] 79 (0, 0)) := by
    rw [hgrow.block b (by simp; omega) (fun e => hne e.symm), Lib.alloc_old w1 _ b hlt]
    exact hbk
  have d0 : w2.cell? ⟨b, 0, none⟩ = some (.pointer (some ⟨b, 0, none⟩)) := by rw [Lib.cell_of_heap hb2]; rfl
  have d1 : w2.cell? ⟨b, 1, none⟩ = some v := by rw [Lib.cell_of_heap hb2]; rfl
  have f1 : w2.frozen? ⟨b, 1, none⟩ = false := Lib.frozen_of_heap hb2 1
  obtain ⟨ao, n', cap, rfl⟩ : ∃ ao n' cap, v' = .slice ao n' cap := by
    rcases hown'.2 with ⟨hv, _⟩ | ⟨g, cap, cur, hv, _⟩
    · exact ⟨_, _, _, hv⟩
    · exact ⟨_, _, _, hv⟩
  have HP := Lib.hid (show Lib.BuilderAt 79 5 B b (.pointer (some ⟨b, 0, none⟩)) (Lib.byteCells (l ++ [c])) (w2.setCell ⟨b, 1, none⟩ (.slice ao n' cap)) by
    rw [← HSC.out]
    exact Lib.BuilderAt.put (T := 79) (e := 5) hB hb2 (bs' := Lib.byteCells l ++ [.int .u8 cv]) (by simpa using hown') (by decide))
  have HB9 := Lib.hid (((hb1.alloc (by omega) _).grown hgrow (by simp; omega) (fun k hk => (hown.lt k hk).1)).setCell (p := ⟨b, 1, none⟩) hB (.slice ao n' cap))
  clear hown hown' hgrow hbk hb2 hne
  go_wp2
  go_ret
  exact ⟨rfl, .inr HP.out, HB9.out⟩
end Go.Proofs.YtkgepklapglmdaaGreatDoor
