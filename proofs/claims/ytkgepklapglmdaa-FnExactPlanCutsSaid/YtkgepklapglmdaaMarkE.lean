/-
  Lemmas and contracts of single functions of this program, used by the proofs of its laws: what each call returns and what becomes of memory. Conditions: the hypotheses of each theorem.
-/
import Derived.Test.YtkgepklapglmdaaMillO
import Derived.Test.YtkgepklapglmdaaMillD
import Derived.Test.YtkgepklapglmdaaMReel
import Derived.Test.YtkgepklapglmdaaMillB
namespace Go.Proofs.Ytkgepklapglmdaa
open Go.RowKit
attribute [local go_sem ↓] Go.wp_at_zero Go.wp_at_succ

/-- an entry whose cells were marked from n on; how many marks it takes -/
def mkE (e : Ent) (n : Nat) : Ent := ⟨(n : Int), ((n + 1 : Nat) : Int), ((n + 2 : Nat) : Int), upT 5 (n + 3) e.ds.length, upT 4 (n + 3 + e.ds.length * 5) e.ps.length⟩
def szE (e : Ent) : Nat := 3 + e.ds.length * 5 + e.ps.length * 4
def offE (es : List Ent) (n : Nat) : Nat → Nat
  | 0 => n
  | k + 1 => offE es n k + szE (ge es k)
def mkL (es : List Ent) (n k : Nat) : List Ent := (List.range es.length).map fun j => if j < k then mkE (ge es j) (offE es n j) else ge es j
theorem mkL_len (es : List Ent) (n k : Nat) : (mkL es n k).length = es.length := by simp [mkL]
theorem mkL_ge {es : List Ent} {n k j : Nat} (h : j < es.length) : ge (mkL es n k) j = if j < k then mkE (ge es j) (offE es n j) else ge es j := by
  rw [ge_eq (by rw [mkL_len]; exact h)]; simp [mkL]
theorem ents_ext {a b : List Ent} (hl : a.length = b.length) (h : ∀ j, j < a.length → ge a j = ge b j) : a = b := by
  refine List.ext_getElem hl fun j h1 h2 => ?_
  have := h j h1
  rwa [ge_eq h1, ge_eq h2] at this
theorem mkL_zero (es : List Ent) (n : Nat) : mkL es n 0 = es := ents_ext (mkL_len es n 0) fun j hj => by
  rw [mkL_len] at hj; rw [mkL_ge hj, if_neg (by omega)]
theorem mkL_succ {es : List Ent} {n k : Nat} (h : k < es.length) : mkL es n (k + 1) = (mkL es n k).set k (mkE (ge es k) (offE es n k)) := ents_ext (by simp [mkL_len]) fun j hj => by
  rw [mkL_len] at hj
  rw [ge_set (by rw [mkL_len]; exact h), mkL_ge hj, mkL_ge hj]
  by_cases e : k = j
  · subst e; simp
  · rw [if_neg e]
    by_cases h1 : j < k
    · rw [if_pos h1, if_pos (by omega)]
    · rw [if_neg h1, if_neg (by omega)]
theorem setCell_id {w : World} {p : Addr} {v : Value} (h : w.cell? p = some v) : w.setCell p v = w := by
  have e : (w.setCell p v).heap = w.heap := by
    unfold World.cell? at h
    refine Array.ext (by simp [World.setCell]) fun i h1 h2 => ?_
    simp only [World.setCell, Array.getElem_modify]
    by_cases hi : p.block = i
    · subst hi
      rw [if_pos rfl]
      rw [Array.getElem?_eq_getElem h2] at h
      cases ho : w.heap[p.block] with
      | cells c t f =>
        rw [ho] at h
        by_cases hs : p.spot.isSome = true
        · simp [hs]
        · simp only [hs] at h ⊢
          have h3 : c[p.off]? = some v := by simpa using h
          simp only [Obj.cells.injEq, and_true]
          refine Array.ext_getElem? fun j => ?_
          rw [if_neg (by simp), Array.getElem?_setIfInBounds]
          by_cases hj : p.off = j
          · subst hj
            rw [if_pos rfl, h3, if_pos (Array.getElem?_eq_some_iff.1 h3).1]
          · rw [if_neg hj]
      | _ => simp
    · rw [if_neg hi]
  show ({ w with heap := (w.setCell p v).heap } : World) = w
  rw [e]
/-- the label and the sizes of one entry -/
theorem OwnE.headAt {w : World} {base s tE tD tP n c : Nat} {A : Option Addr} {es : List Ent} {i : Nat} (h : OwnE w base s tE tD tP (.slice A n c) es) (hi : i < es.length) (hD : tE ≠ tD) (hP : tE ≠ tP) :
    ∃ g, A = some ⟨g, 0, none⟩ ∧ base ≤ g ∧ g < s ∧ g < w.heap.size ∧ w.cell? ⟨g, i * 5, none⟩ = some (.int .i64 (ge es i).lb) ∧ w.cell? ⟨g, i * 5 + 1, none⟩ = some (.int .i64 (ge es i).W) ∧ w.cell? ⟨g, i * 5 + 2, none⟩ = some (.int .i64 (ge es i).L) ∧ (∀ j, w.frozen? ⟨g, i * 5 + j, none⟩ = false) ∧
      ∀ x y z : Int, I64 x → I64 y → I64 z → OwnE (((w.setCell ⟨g, i * 5, none⟩ (.int .i64 x)).setCell ⟨g, i * 5 + 1, none⟩ (.int .i64 y)).setCell ⟨g, i * 5 + 2, none⟩ (.int .i64 z)) base s tE tD tP (.slice A n c) (es.set i { ge es i with lb := x, W := y, L := z }) := by
  obtain ⟨cs, vd, vp, h1, h2, h3, h4⟩ := h
  have hcl := h1.1
  have hg : ∃ g, A = some ⟨g, 0, none⟩ := by
    rcases h1.2 with ⟨e, h0⟩ | ⟨g, cap, cur, e, _⟩
    · omega
    · injection e with e1; exact ⟨g, e1⟩
  obtain ⟨g, rfl⟩ := hg
  have hn : n = es.length := by
    rcases h1.2 with ⟨e, h0⟩ | ⟨g', cap, cur, e, _⟩
    · exact absurd e (by simp)
    · injection e
  subst hn
  have hlt := h1.lt g rfl
  obtain ⟨i64, ⟨i0, i1, i2, i3, i4⟩, iD, iP⟩ := h3 i hi
  refine ⟨g, rfl, hlt.1, h2 g rfl, hlt.2, by rw [h1.cellAt (i * 5) (by omega)]; exact i0, by rw [h1.cellAt (i * 5 + 1) (by omega)]; exact i1, by rw [h1.cellAt (i * 5 + 2) (by omega)]; exact i2, fun j => h1.frozenAt _, fun x y z hx hy hz => ?_⟩
  have s1 := (h1.stored (i * 5) (.int .i64 x)).1
  have s2 := (s1.stored (i * 5 + 1) (.int .i64 y)).1
  have s3 := (s2.stored (i * 5 + 2) (.int .i64 z)).1
  have far : ∀ (u : Value) (t k : Nat) (xs : List (List Int)) (b : Nat), OwnT w b t k u xs → tE ≠ t → OwnT (((w.setCell ⟨g, i * 5, none⟩ (.int .i64 x)).setCell ⟨g, i * 5 + 1, none⟩ (.int .i64 y)).setCell ⟨g, i * 5 + 2, none⟩ (.int .i64 z)) b t k u xs := by
    intro u t k xs b hu hne
    refine hu.keptBlock fun g' hg' => ?_
    have : ¬ g = g' := fun e => by
      subst e
      exact own_types h1 hu.1 hne (g := g) rfl hg'
    simp only [World.setCell, Array.getElem?_modify, if_neg this]
  refine ⟨_, vd, vp, by rw [List.length_set]; simpa using s3, h2, fun k hkl => ?_, fun j k hjk hkl => ?_⟩
  · rw [List.length_set] at hkl
    obtain ⟨a1, ⟨b0, b1, b2, b3, b4⟩, a3, a4⟩ := h3 k hkl
    rw [ge_set hi]
    by_cases e : i = k
    · subst e
      simp only [if_true]
      refine ⟨⟨hx, hy, hz⟩, ⟨?_, ?_, ?_, ?_, ?_⟩, ⟨far _ _ _ _ _ a3.1 hD, a3.2⟩, ⟨far _ _ _ _ _ a4.1 hP, a4.2⟩⟩
      · rw [List.getElem?_set_ne (by omega), List.getElem?_set_ne (by omega), List.getElem?_set_self (by omega)]
      · rw [List.getElem?_set_ne (by omega), List.getElem?_set_self (by rw [List.length_set]; omega)]
      · rw [List.getElem?_set_self (by rw [List.length_set, List.length_set]; omega)]
      · rw [List.getElem?_set_ne (by omega), List.getElem?_set_ne (by omega), List.getElem?_set_ne (by omega)]; exact b3
      · rw [List.getElem?_set_ne (by omega), List.getElem?_set_ne (by omega), List.getElem?_set_ne (by omega)]; exact b4
    · simp only [if_neg e]
      refine ⟨a1, ⟨?_, ?_, ?_, ?_, ?_⟩, ⟨far _ _ _ _ _ a3.1 hD, a3.2⟩, ⟨far _ _ _ _ _ a4.1 hP, a4.2⟩⟩
      all_goals
        rw [List.getElem?_set_ne (by omega), List.getElem?_set_ne (by omega), List.getElem?_set_ne (by omega)]
        assumption
  · rw [List.length_set] at hkl
    exact h4 j k hjk hkl
theorem offE_le {es : List Ent} {n : Nat} : ∀ {k m : Nat}, k ≤ m → offE es n k ≤ offE es n m := fun {k m} h => by
  induction h with
  | refl => exact Nat.le_refl _
  | step _ ih => exact Nat.le_trans ih (Nat.le_add_right _ _)
set_option maxRecDepth 100000 in
set_option maxHeartbeats 8000000 in
theorem markEntryS_any (base s : Nat) (v : Value) (es : List Ent) (n : Nat) (w : World) (h : OwnE w base s 56 83 48 v es) (hs : s ≤ w.heap.size) (hz : ∀ k, k < es.length → (ge es k).ds.length ≤ 1048576 ∧ (ge es k).ps.length ≤ 1048576) (hl : es.length ≤ 1048576) (hn : offE es n es.length ≤ 8000000) :
    Calls Try.prog 37 #[v, .int .i64 (n : Int)] w fun e w' => e = .returned (.int .i64 ((offE es n es.length : Nat) : Int)) ∧ OwnE w' base s 56 83 48 v (mkL es n es.length) ∧ Only base s w w' := by
  obtain ⟨A, c, rfl, hc, hm⟩ := h.form
  have HSz := Lib.hid hz
  have HN := Lib.hid hn
  clear hz hn
  go_enter Try.func37, Try.ntmps37
  go_wp2
  go_loopw [1, 5] (fun q i wr => ∃ k : Nat, k ≤ es.length ∧ i = .int .i64 k ∧ q = .int .i64 ((offE es n k : Nat) : Int) ∧ OwnE wr base s 56 83 48 (.slice A es.length c) (mkL es n k) ∧ Only base s w wr) (fun _ i _ => es.length - (intOf i).toNat)
  case atStart => exact ⟨0, by omega, rfl, rfl, by rw [mkL_zero]; exact h, Only.refl _ _ _⟩
  case round =>
    obtain ⟨k, hk, rfl, rfl, ho, hb⟩ := hrel
    clear h
    by_cases hlt : k < es.length
    · have hml := mkL_len es n k
      have hek : ge (mkL es n k) k = ge es k := by rw [mkL_ge hlt, if_neg (by omega)]
      obtain ⟨g, rfl, hg1, hg2, hg3, e0, e1, e2, hfr, hset⟩ := ho.headAt (i := k) (by rw [hml]; exact hlt) (by decide) (by decide)
      rw [hek] at e0 e1 e2 hset
      have f0 := hfr 0
      have f1 := hfr 1
      have f2 := hfr 2
      rw [Nat.add_zero] at f0
      have hsz := HSz.out k hlt
      have hz0 : offE es n k + szE (ge es k) ≤ 8000000 := Nat.le_trans (offE_le (k := k + 1) hlt) HN.out
      unfold szE at hz0
      have hk0 : (0 : Int) ≤ (k : Int) := by omega
      have hk1 : (k : Int) < (es.length : Int) := by omega
      obtain ⟨z, hz⟩ : ∃ z, z = offE es n k := ⟨_, rfl⟩
      rw [← hz] at hz0 ⊢
      have Hz := Lib.hid hz
      have h1 := hset (z : Int) ((z : Int) + 1) ((z : Int) + 1 + 1) ⟨by omega, by omega⟩ ⟨by omega, by omega⟩ ⟨by omega, by omega⟩
      have Hs1 := Lib.hid h1
      have Hb := Lib.hid hb
      have hsr : s ≤ wr.heap.size := by have := hb.size; omega
      obtain ⟨gd, Ad, cd, hgd, _, _, e3, _, hod0, _, _⟩ := ho.dsAt (i := k) (by rw [hml]; exact hlt) (by decide) (by decide) (by decide)
      obtain ⟨gp, Ap, cp, hgp, _, _, e4, _, hop0, _, _⟩ := ho.psAt (i := k) (by rw [hml]; exact hlt) (by decide) (by decide) (by decide)
      obtain rfl : g = gd := by simpa using hgd
      obtain rfl : g = gp := by simpa using hgp
      rw [hek] at e3 e4
      obtain ⟨es1, hes1⟩ : ∃ x, x = (mkL es n k).set k { ge es k with lb := (z : Int), W := (z : Int) + 1, L := (z : Int) + 1 + 1 } := ⟨_, rfl⟩
      have Hes1 := Lib.hid hes1
      have hl1 : k < es1.length := by rw [hes1, List.length_set, hml]; exact hlt
      have hg1e : ge es1 k = { ge es k with lb := (z : Int), W := (z : Int) + 1, L := (z : Int) + 1 + 1 } := by rw [hes1, ge_set (by rw [hml]; exact hlt), if_pos rfl]
      have Hg1e := Lib.hid hg1e
      rw [← hes1] at Hs1
      have Hl1 := Lib.hid hl1
      obtain ⟨z3, hz3⟩ : ∃ z3 : Nat, (z3 : Int) = (z : Int) + 1 + 1 + 1 := ⟨z + 3, by omega⟩
      have Hz3 := Lib.hid hz3
      have hgk : g < wr.heap.size := hg3
      clear hset h1 ho hz hb hfr hgd hgp hod0 hop0 hes1 hl1 hg1e hml hek
      go_wp2_with fail
      rw [← Hz3.out]
      obtain ⟨w1, hw1⟩ : ∃ w1, w1 = ((wr.setCell ⟨g, k * 5, none⟩ (.int .i64 z)).setCell ⟨g, k * 5 + 1, none⟩ (.int .i64 ((z : Int) + 1))).setCell ⟨g, k * 5 + 2, none⟩ (.int .i64 ((z : Int) + 1 + 1)) := ⟨_, rfl⟩
      have e31 : w1.cell? ⟨g, k * 5 + 3, none⟩ = some (.slice Ad (ge es k).ds.length cd) := by rw [hw1]; go_simp
      have e41 : w1.cell? ⟨g, k * 5 + 4, none⟩ = some (.slice Ap (ge es k).ps.length cp) := by rw [hw1]; go_simp
      have ho1 := Hs1.out
      rw [← hw1] at ho1
      have Hb1 := Lib.hid (show Only base s w w1 by rw [hw1]; exact ((Hb.out.setCell (p := ⟨g, _, none⟩) hg1 hg2 _).setCell (p := ⟨g, _, none⟩) hg1 hg2 _).setCell (p := ⟨g, _, none⟩) hg1 hg2 _)
      rw [← hw1]
      clear hw1 e0 e1 e2 e3 e4 f0 f1 f2 Hs1 Hb
      obtain ⟨gd, Ad', cd', hgd, _, _, q0, _, hod, hob, hput⟩ := ho1.dsAt (i := k) Hl1.out (by decide) (by decide) (by decide)
      obtain rfl : g = gd := by simpa using hgd
      rw [Hg1e.out] at q0 hod hob hput
      dsimp only at q0 hod hob hput
      rw [q0] at e31
      injection e31 with e31
      injection e31 with e31 _ e32
      subst e31; subst e32
      refine (markDefectS_any base _ (ge es k).ds z3 w1 hod hsz.1 (by omega)).mono ?_
      rintro e w2 ⟨rfl, od2, b2, k2, s2⟩
      have q2 : w2.cell? ⟨g, k * 5 + 3, none⟩ = some (.slice Ad' (ge es k).ds.length cd') := (World.cell?_of_block (k2 g fun e => (hob g e.symm).2 rfl)).trans q0
      have e42 : w2.cell? ⟨g, k * 5 + 4, none⟩ = some (.slice Ap (ge es k).ps.length cp) := (World.cell?_of_block (k2 g fun e => (hob g e.symm).2 rfl)).trans e41
      have H2 := hput w2 _ _ s od2 (fun q _ hne => k2 q hne) (fun q hq => ⟨.inl hq, (hob q hq).1⟩) (Nat.le_refl s)
      rw [setCell_id q2] at H2
      have Hb2 := Lib.hid (show Only base s w w2 from Hb1.out.trans ⟨b2.os, b2.tape, b2.output, s2, fun q hq => k2 q fun e => by
        have h8 := (hod.lt q e.symm).1
        have h9 := (hob q e.symm).1
        omega⟩)
      have hz4 : z3 + (ge es k).ds.length * 5 ≤ 8000000 := by omega
      have H2' := Lib.hid H2
      clear hput hod hob q0 od2 b2 k2 s2 H2 Hb1 ho1 hgd e41
      obtain ⟨es2, hes2⟩ : ∃ x, x = es1.set k { lb := (z : Int), W := (z : Int) + 1, L := (z : Int) + 1 + 1, ds := upT 5 z3 (ge es k).ds.length, ps := (ge es k).ps : Ent } := ⟨_, rfl⟩
      have Hes2 := Lib.hid hes2
      have hl2 : k < es2.length := by rw [hes2, List.length_set]; exact Hl1.out
      have hg2e : ge es2 k = { lb := (z : Int), W := (z : Int) + 1, L := (z : Int) + 1 + 1, ds := upT 5 z3 (ge es k).ds.length, ps := (ge es k).ps : Ent } := by rw [hes2, ge_set Hl1.out, if_pos rfl]
      have H2o := Lib.hid (show OwnE w2 base s 56 83 48 (.slice (some ⟨g, 0, none⟩) es.length c) es2 from by rw [hes2]; exact H2'.out)
      have Hg2e := Lib.hid hg2e
      have Hl2 := Lib.hid hl2
      clear hes2 hl2 hg2e H2' q2
      obtain ⟨z4, hz4e⟩ : ∃ z4, z4 = z3 + (ge es k).ds.length * 5 := ⟨_, rfl⟩
      rw [← hz4e] at hz4 ⊢
      have Hz4 := Lib.hid hz4e
      clear hz4e
      go_wp2_with fail
      obtain ⟨gp, Ap', cp', hgp, _, _, q0, _, hod, hob, hput⟩ := H2o.out.psAt (i := k) Hl2.out (by decide) (by decide) (by decide)
      obtain rfl : g = gp := by simpa using hgp
      rw [Hg2e.out] at q0 hod hob hput
      dsimp only at q0 hod hob hput
      rw [q0] at e42
      injection e42 with e42
      injection e42 with e42 _ e43
      subst e42; subst e43
      refine (markPartS_any base _ (ge es k).ps z4 w2 hod hsz.2 (by omega)).mono ?_
      rintro e w3 ⟨rfl, od3, b3, k3, s3⟩
      have q3 : w3.cell? ⟨g, k * 5 + 4, none⟩ = some (.slice Ap' (ge es k).ps.length cp') := (World.cell?_of_block (k3 g fun e => (hob g e.symm).2 rfl)).trans q0
      have H3 := hput w3 _ _ s od3 (fun q _ hne => k3 q hne) (fun q hq => ⟨.inl hq, (hob q hq).1⟩) (Nat.le_refl s)
      rw [setCell_id q3] at H3
      have Hb3 := Lib.hid (show Only base s w w3 from Hb2.out.trans ⟨b3.os, b3.tape, b3.output, s3, fun q hq => k3 q fun e => by
        have h8 := (hod.lt q e.symm).1
        have h9 := (hob q e.symm).1
        omega⟩)
      have HE3 := Lib.hid (show OwnE w3 base s 56 83 48 (.slice (some ⟨g, 0, none⟩) es.length c) (mkL es n (k + 1)) from by
        have e9 : mkL es n (k + 1) = es2.set k { lb := (z : Int), W := (z : Int) + 1, L := (z : Int) + 1 + 1, ds := upT 5 z3 (ge es k).ds.length, ps := upT 4 z4 (ge es k).ps.length : Ent } := by
          rw [mkL_succ hlt, Hes2.out, Hes1.out, List.set_set, List.set_set, ← Hz.out]
          congr 1
          unfold mkE
          have h3 := Hz3.out
          have h4 := Hz4.out
          have h5 : z3 = z + 3 := by omega
          rw [h4, h5]
          congr 1
        rw [e9]; exact H3)
      have HO := Lib.hid (show offE es n (k + 1) = z4 + (ge es k).ps.length * 4 from by
        show offE es n k + szE (ge es k) = _
        rw [← Hz.out, Hz4.out]
        have h3 := Hz3.out
        unfold szE; omega)
      clear hput hod hob q0 od3 b3 k3 s3 H3 Hb2 hgp H2o
      go_wp2
      go_roundw
      case rel => exact ⟨k + 1, by omega, by go_num, by rw [HO.out]; congr 1, HE3.out, Hb3.out⟩
      case measure => simp [intOf]; omega
    · have He := Lib.hid (show k = es.length by omega)
      have Ho := Lib.hid ho
      have Hb := Lib.hid hb
      clear ho hb
      rw [He.out]
      go_wp2
      go_ret
      refine ⟨rfl, ?_, Hb.out⟩
      have := Ho.out
      rw [He.out] at this
      exact this
set_option maxHeartbeats 2000000 in
theorem markMill_any (base s : Nat) (v : Value) (es : List Ent) (a b z : Int) (n : Nat) (w : World) (h : OwnE w base s 56 83 48 v es) (hs : s ≤ w.heap.size) (hz : ∀ k, k < es.length → (ge es k).ds.length ≤ 1048576 ∧ (ge es k).ps.length ≤ 1048576) (hl : es.length ≤ 1048576) (hn : offE es n es.length ≤ 8000000) :
    Calls Try.prog 13 #[.agg #[v, .int .i64 a, .int .i64 b, .int .i64 z], .int .i64 (n : Int)] w fun e w' => e = .returned (.int .i64 ((offE es n es.length : Nat) : Int)) ∧ OwnE w' base s 56 83 48 v (mkL es n es.length) ∧ (∀ q, q < w.heap.size → ¬ (base ≤ q ∧ q < s) → w'.heap[q]? = w.heap[q]?) ∧ (w'.os = w.os ∧ w'.tape = w.tape ∧ w'.output = w.output) ∧ w.heap.size ≤ w'.heap.size := by
  obtain ⟨A, c, rfl, hc, hm⟩ := h.form
  have hes : ∀ w1, Below w.heap.size w w1 → OwnE w1 base s 56 83 48 (.slice A es.length c) es := fun w1 hb => h.below hb hs
  have HSz := Lib.hid hz
  clear hz
  have Hs := Lib.hid (show ∃ w1, w1 = (w.alloc (.cells #[.slice A es.length c, .int .i64 a, .int .i64 b, .int .i64 z] 32)) ∧ Below w.heap.size w w1 ∧ w1.cell? ⟨w.heap.size, 0, none⟩ = some (.slice A es.length c) ∧ w1.cell? ⟨w.heap.size, 1, none⟩ = some (.int .i64 a) ∧ w1.cell? ⟨w.heap.size, 2, none⟩ = some (.int .i64 b) ∧ w1.cell? ⟨w.heap.size, 3, none⟩ = some (.int .i64 z) ∧ w.heap.size < w1.heap.size from by
    have hb : Below w.heap.size w (w.alloc (.cells #[.slice A es.length c, .int .i64 a, .int .i64 b, .int .i64 z] 32)) := (Below.refl _ _).alloc (Nat.le_refl _) _
    exact ⟨_, rfl, hb, by go_simp, by go_simp, by go_simp, by go_simp, by simp⟩)
  go_enter Try.func13, Try.ntmps13
  go_wp2_with fail
  obtain ⟨w1, hw1, hb0, c00, c01, c02, c03, hz⟩ := Hs.out
  rw [← hw1]
  clear hw1 Hs
  refine (markEntryS_any base s _ es n w1 (hes w1 hb0) (by omega) HSz.out hl hn).mono ?_
  rintro e w2 ⟨rfl, ho, hb⟩
  have Ho := Lib.hid ho
  have Hb := Lib.hid hb
  have Hb0 := Lib.hid hb0
  clear ho hb hb0 hes h
  go_wp2
  go_ret
  refine ⟨rfl, Ho.out, fun q hq hne => (Hb.out.block q (by omega)).trans (Hb0.out.block q hq), ⟨Hb.out.os.trans Hb0.out.os, Hb.out.tape.trans Hb0.out.tape, Hb.out.output.trans Hb0.out.output⟩, ?_⟩
  have h1 := Hb.out.size
  have h2 := Hb0.out.size
  omega
def totE (es : List Ent) : Nat → Nat
  | 0 => 0
  | k + 1 => totE es k + (ge es k).ds.length + (ge es k).ps.length
theorem totE_le {es : List Ent} : ∀ {k m : Nat}, k ≤ m → totE es k ≤ totE es m := fun {k m} h => by
  induction h with
  | refl => exact Nat.le_refl _
  | step _ ih => exact Nat.le_trans ih (by show _ ≤ totE es _ + _ + _; omega)
theorem offE_tot (es : List Ent) (n : Nat) : ∀ k, offE es n k ≤ n + 3 * k + 5 * totE es k
  | 0 => by simp [offE, totE]
  | k + 1 => by
    have ih := offE_tot es n k
    show offE es n k + szE (ge es k) ≤ n + 3 * (k + 1) + 5 * (totE es k + (ge es k).ds.length + (ge es k).ps.length)
    unfold szE; omega
/-- the sizes of a mill are borne: all together -/
def SzT (es : List Ent) (r : Int) : Prop := r = -1 ∨ (0 ≤ r ∧ r ≤ 1048576 ∧ es.length + totE es es.length ≤ 1048576)
theorem SzT.parts {es : List Ent} (h : es.length + totE es es.length ≤ 1048576) : es.length ≤ 1048576 ∧ (∀ k, k < es.length → (ge es k).ds.length ≤ 1048576 ∧ (ge es k).ps.length ≤ 1048576) ∧ offE es 1 es.length ≤ 8000000 := by
  refine ⟨by omega, fun k hk => ?_, ?_⟩
  · have h1 : totE es (k + 1) ≤ totE es es.length := totE_le hk
    have h2 : totE es (k + 1) = totE es k + (ge es k).ds.length + (ge es k).ps.length := rfl
    omega
  · have := offE_tot es 1 es.length
    omega
set_option maxHeartbeats 2000000 in
theorem szEntryT_any (lo hi : Nat) (v : Value) (es : List Ent) (w : World) (h : ES w lo hi v es) (hhi : hi ≤ w.heap.size) :
    Calls Try.prog 24 #[v, .int .i64 1048576] w fun e w' => ∃ r, e = .returned (.int .i64 r) ∧ SzT es r ∧ Below w.heap.size w w' := by
  obtain ⟨A, c, rfl, hc, hm⟩ := h.form
  by_cases hl : es.length ≤ 1048576
  · obtain ⟨m0, hm0⟩ : ∃ m0 : Nat, (m0 : Int) = 1048576 - (es.length : Int) := ⟨1048576 - es.length, by omega⟩
    have g1 : wrap64 (1048576 - (es.length : Int)) = (m0 : Int) := by rw [hm0]; exact w64 (by omega)
    have g2 : IntKind.i64.wrap (1048576 - (es.length : Int)) = (m0 : Int) := by rw [hm0]; exact IntWalk.i64_in _ (by omega)
    have hm1 : m0 ≤ 1048576 := by omega
    have HM0 := Lib.hid (show m0 + es.length = 1048576 by omega)
    clear hm0
    go_enter Try.func24, Try.ntmps24
    go_wp2
    go_loopw [1, 5] (fun l i wr => ∃ k m : Nat, k ≤ es.length ∧ m ≤ 1048576 ∧ i = .int .i64 k ∧ l = .int .i64 m ∧ Below w.heap.size w wr ∧ Hid (m + totE es k + es.length = 1048576)) (fun _ i _ => es.length - (intOf i).toNat)
    case atStart => exact ⟨0, m0, by omega, hm1, rfl, rfl, Below.refl _ _, by show m0 + 0 + es.length = 1048576; exact HM0.out⟩
    case round =>
      obtain ⟨k, m, hk, hm9, rfl, rfl, bw, HJ⟩ := hrel
      have hzr := bw.size
      by_cases hlt : k < es.length
      · obtain ⟨b, o, Ad, cd, Ap, cp, rfl, _, _, e0, e1, e2, e3, e4, hd, hp, l1, l2, l3, l4⟩ := (h.below bw hhi).cell hlt
        have hk0 : (0 : Int) ≤ (k : Int) := by omega
        have hk1 : (k : Int) < (es.length : Int) := by omega
        clear g1 g2
        go_wp2_with fail
        refine (szEntry_any _ _ _ _ _ _ _ _ _ m wr (by omega) (by omega) (by omega)).mono ?_
        by_cases h2 : (ge es k).ds.length + (ge es k).ps.length ≤ m
        · rw [if_pos h2]
          rintro e w2 ⟨rfl, b2⟩
          obtain ⟨q, hq⟩ : ∃ q, q = m - (ge es k).ds.length - (ge es k).ps.length := ⟨_, rfl⟩
          have HJ2 : Hid (q + totE es (k + 1) + es.length = 1048576) := by
            have h9 := HJ.out
            show q + (totE es k + (ge es k).ds.length + (ge es k).ps.length) + es.length = 1048576
            omega
          rw [← hq]
          have hq2 : q ≤ 1048576 := by omega
          clear hq e0 e1 e2 e3 e4
          go_wp2
          go_roundw
          case rel => exact ⟨k + 1, q, by omega, hq2, by go_num, rfl, bw.trans (b2.mono (by omega)), HJ2⟩
          case measure => simp [intOf]; omega
        · rw [if_neg h2]
          rintro e w2 ⟨rfl, b2⟩
          clear e0 e1 e2 e3 e4
          go_wp2
          go_ret
          exact ⟨_, rfl, .inl rfl, bw.trans (b2.mono (by omega))⟩
      · have he : k = es.length := by omega
        have HF := Lib.hid (show es.length + totE es es.length ≤ 1048576 by have h9 := HJ.out; rw [he] at h9; omega)
        go_wp2
        go_ret
        exact ⟨_, rfl, .inr ⟨by omega, by omega, HF.out⟩, bw⟩
  · have g1 : wrap64 (1048576 - (es.length : Int)) = 1048576 - (es.length : Int) := w64 (by omega)
    have hn : 1048576 - (es.length : Int) < 0 := by omega
    go_enter Try.func24, Try.ntmps24
    go_wp2
    go_ret
    exact ⟨_, rfl, .inl rfl, Below.refl _ _⟩
theorem szMillT_any (lo hi : Nat) (v : Value) (es : List Ent) (a b z : Int) (w : World) (h : ES w lo hi v es) (hhi : hi ≤ w.heap.size) :
    Calls Try.prog 5 #[.agg #[v, .int .i64 a, .int .i64 b, .int .i64 z], .int .i64 1048576] w fun e w' => ∃ r, e = .returned (.int .i64 r) ∧ SzT es r ∧ Below w.heap.size w w' := by
  obtain ⟨A, c, rfl, hc, hm⟩ := h.form
  have hes : ∀ w1, Below w.heap.size w w1 → ES w1 lo hi (.slice A es.length c) es := fun w1 hb => h.below hb hhi
  have Hs := Lib.hid (show ∃ w1, w1 = (w.alloc (.cells #[.slice A es.length c, .int .i64 a, .int .i64 b, .int .i64 z] 24)) ∧ Below w.heap.size w w1 ∧ w1.cell? ⟨w.heap.size, 0, none⟩ = some (.slice A es.length c) ∧ w1.cell? ⟨w.heap.size, 1, none⟩ = some (.int .i64 a) ∧ w1.cell? ⟨w.heap.size, 2, none⟩ = some (.int .i64 b) ∧ w1.cell? ⟨w.heap.size, 3, none⟩ = some (.int .i64 z) ∧ w.heap.size < w1.heap.size from by
    have hb : Below w.heap.size w (w.alloc (.cells #[.slice A es.length c, .int .i64 a, .int .i64 b, .int .i64 z] 24)) := (Below.refl _ _).alloc (Nat.le_refl _) _
    exact ⟨_, rfl, hb, by go_simp, by go_simp, by go_simp, by go_simp, by simp⟩)
  go_enter Try.func5, Try.ntmps5
  go_wp2_with fail
  obtain ⟨w1, hw1, hb0, c00, c01, c02, c03, hz⟩ := Hs.out
  rw [← hw1]
  clear hw1 Hs
  refine (szEntryT_any lo hi _ es w1 (hes w1 hb0) (by omega)).mono ?_
  rintro e w2 ⟨r, rfl, hr, b2⟩
  have Hr := Lib.hid hr
  rcases hr with rfl | ⟨h1, h2, _⟩
  · go_wp2
    go_ret
    exact ⟨_, rfl, Hr.out, hb0.trans (b2.mono (by omega))⟩
  · have hnn : ¬ r < 0 := by omega
    go_wp2
    go_ret
    exact ⟨_, rfl, Hr.out, hb0.trans (b2.mono (by omega))⟩
end Go.Proofs.Ytkgepklapglmdaa
