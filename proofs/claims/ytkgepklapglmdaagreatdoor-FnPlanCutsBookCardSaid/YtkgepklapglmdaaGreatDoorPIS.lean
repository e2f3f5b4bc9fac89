/-
  Texts merged into one: what each function does, and plain lemmas. No condition.
-/
import Derived.Test.YtkgepklapglmdaaGreatDoorPlaP
import Derived.Test.YtkgepklapglmdaaGreatDoorMiJ
import Derived.Test.YtkgepklapglmdaaGreatDoorMillC
import Derived.Test.YtkgepklapglmdaaGreatDoorMillH
import Derived.Test.YtkgepklapglmdaaGreatDoorGST
import Derived.Test.YtkgepklapglmdaaGreatDoorEvA
import Derived.Test.YtkgepklapglmdaaGreatDoorGrdV
namespace Go.Proofs.YtkgepklapglmdaaGreatDoor
open Go.RowKit
attribute [local go_sem ↓] Go.wp_at_zero Go.wp_at_succ

def PlPost (w : World) (evs : List Evt) (ok : Bool) (e : Ending) (w' : World) : Prop := ∃ v', e = .returned (.tuple #[v', .bool ok]) ∧ OwnT w' w.heap.size 40 7 v' (evT evs) ∧ Below w.heap.size w w'
theorem PlPost.none {w w' : World} {R : List Evt} {ok : Bool} (h : Below w.heap.size w w') (hR : R = []) (hok : ok = false) : PlPost w R ok (.returned (.tuple #[.slice none 0 0, .bool false])) w' := by
  subst hR hok
  exact ⟨_, rfl, OwnT.nil _ _ _ _, h⟩
theorem plB_false {m : Mil} {lb : Int} {ws xs : List Int} (h : ¬ (m.ok = true ∧ 0 ≤ entI m.es lb ∧ (ge m.es (entI m.es lb).toNat).ps.length = 0 ∧ vWan (ge m.es (entI m.es lb).toNat).W ws xs = true ∧ 0 < xs.sum)) : plB m lb ws xs = false := by
  cases hb : plB m lb ws xs
  · rfl
  · exact absurd (plB_iff.1 hb) h
theorem evT_plE (lb : Int) {P : List (List Int)} {k : Nat} (h : k < P.length) : evT (plE lb (P.take (k + 1))) = evT (plE lb (P.take k)) ++ [[2, lb, gi (gr P k) 0, gi (gr P k) 1, gi (gr P k) 2, gi (gr P k) 3, 0]] := by
  have e : ∀ j, plE lb (P.take j) = (plE lb P).take j := fun j => by unfold plE; rw [List.map_take]
  rw [e, e, plE_take lb h, evT_snoc]
/-- wpList_appendT, the block of what is appended named -/
theorem wpList_appendTP {P : Program} {t e : TypeId} {z : Value} {k bytes : Nat} (S : SlT P t e z k bytes) {ops : Array Oper} {rest : List Oper} {o : Oper} {a : Act} {Q : Exit → Act → World → Prop} (w : World) (hgd : o.guard = none) (s x : Operand)
    (ho : o.op = .call { callee := .builtin .append, args := #[s, x], argTypes := #[t, t] }) (y : List Int) (cs : Array Value) (hcs : cs = (y.map (Value.int .i64)).toArray) (N : Nat) (hN : N = w.heap.size)
    (base : Nat) (v : Value) (xss : List (List Int)) (hs : a.eval s = v) (hx : a.eval x = .slice (some ⟨N, 0, none⟩) 1 1) (hown : OwnT w base e k v xss) (hy : y.length = k ∧ ∀ n ∈ y, I64 n)
    (hn : (xss.length + 1) * bytes ≤ 140737488355328) (hn2 : xss.length ≤ 1099511627776) (hb : base ≤ w.heap.size)
    (h : ∀ v' w', OwnT w' base e k v' (xss ++ [y]) → Grew base v v' w w' → wpList P ops Q rest (a.put o.dst v') w') :
    wpList P ops Q (o :: rest) a (w.alloc (.cells cs e)) := by
  subst hN
  exact wpList_appendT S w hgd s x ho y cs hcs base v xss hs hx hown hy hn hn2 hb h
set_option maxRecDepth 100000 in
set_option maxHeartbeats 4000000 in
theorem PlanCutsI_any (lo hi l2 h2 l3 h3 : Nat) (v u2 u3 : Value) (m : Mil) (lb : Int) (ws xs : List Int) (w : World) (h : ES w lo hi v m.es) (hhi : hi ≤ w.heap.size) (hin : I64 m.a ∧ I64 m.b ∧ I64 m.z) (hlb : I64 lb) (hw : Ints w l2 h2 u2 ws) (hh2 : h2 ≤ w.heap.size) (hx : Ints w l3 h3 u3 xs) (hh3 : h3 ≤ w.heap.size) :
    Calls Tryz.prog 8 #[.agg #[v, .int .i64 m.a, .int .i64 m.b, .int .i64 m.z], .int .i64 lb, u2, u3] w fun e w' => PlPost w (plL m lb ws xs) (plB m lb ws xs) e w' := by
  obtain ⟨es, a, b, z⟩ := m
  dsimp only at h hin ⊢
  obtain ⟨A, c, rfl, hc, hm⟩ := h.form
  obtain ⟨A2, c2, rfl, hc2, hm2⟩ := hw.form
  obtain ⟨A3, c3, rfl, hc3, hm3⟩ := hx.form
  have HES := Lib.hid (show ∀ w1, Below w.heap.size w w1 → ES w1 lo hi (.slice A es.length c) es from fun w1 hb => h.below hb hhi)
  have HWS := Lib.hid (show ∀ w1, Below w.heap.size w w1 → Ints w1 l2 h2 (.slice A2 ws.length c2) ws from fun w1 hb => hw.below hb hh2)
  have HXS := Lib.hid (show ∀ w1, Below w.heap.size w w1 → Ints w1 l3 h3 (.slice A3 xs.length c3) xs from fun w1 hb => hx.below hb hh3)
  obtain ⟨R, hR⟩ : ∃ R, R = plL ⟨es, a, b, z⟩ lb ws xs := ⟨_, rfl⟩
  obtain ⟨ok, hok⟩ : ∃ ok, ok = plB ⟨es, a, b, z⟩ lb ws xs := ⟨_, rfl⟩
  rw [← hR, ← hok]
  have HNO := Lib.hid (show plB ⟨es, a, b, z⟩ lb ws xs = false → R = [] ∧ ok = false from fun h9 => ⟨by rw [hR]; unfold plL; rw [h9]; rfl, by rw [hok, h9]⟩)
  have HYES := Lib.hid (show ∀ i : Nat, entI es lb = (i : Int) → plB ⟨es, a, b, z⟩ lb ws xs = true → R = plE lb (slL (ge es i).W (ge es i).L (ge es i).ds ws (gr (gsL (ge es i).W ws xs) 0) 0 (ge es i).L) ∧ ok = true from fun i hi h9 => ⟨by rw [hR]; unfold plL; rw [if_pos h9]; dsimp only; rw [hi, Int.toNat_natCast], by rw [hok, h9]⟩)
  clear h hw hx hR hok
  have Hs := Lib.hid (show ∃ w1, w1 = (w.alloc (.cells #[.slice A es.length c, .int .i64 a, .int .i64 b, .int .i64 z] 25)) ∧ Below w.heap.size w w1 ∧ w1.cell? ⟨w.heap.size, 0, none⟩ = some (.slice A es.length c) ∧ w1.cell? ⟨w.heap.size, 1, none⟩ = some (.int .i64 a) ∧ w1.cell? ⟨w.heap.size, 2, none⟩ = some (.int .i64 b) ∧ w1.cell? ⟨w.heap.size, 3, none⟩ = some (.int .i64 z) ∧ w.heap.size < w1.heap.size from by
    have hb : Below w.heap.size w (w.alloc (.cells #[.slice A es.length c, .int .i64 a, .int .i64 b, .int .i64 z] 25)) := (Below.refl _ _).alloc (Nat.le_refl _) _
    exact ⟨_, rfl, hb, by go_simp, by go_simp, by go_simp, by go_simp, by simp⟩)
  go_enter Tryz.func8, Tryz.ntmps8
  go_wp2_with fail
  obtain ⟨w1, hw1, hb0, c00, c01, c02, c03, hz⟩ := Hs.out
  rw [← hw1]
  clear hw1 Hs
  have he1 := HES.out w1 hb0
  refine (ValidMill_any lo hi _ es a b z w1 he1 (by omega) hin).mono ?_
  rintro e w2 ⟨rfl, b2⟩
  have hz2 : w.heap.size < w2.heap.size := by have := b2.size; omega
  have HB2 := Lib.hid (hb0.trans (b2.mono hb0.size))
  replace c00 := keepB b2 c00; replace c01 := keepB b2 c01; replace c02 := keepB b2 c02; replace c03 := keepB b2 c03
  clear b2 he1 hb0
  cases hvm : vMill es a b z
  · obtain ⟨hR0, hk0⟩ := HNO.out (plB_false fun h9 => by have h8 : vMill es a b z = true := h9.1; rw [hvm] at h8; cases h8)
    have HR0 := Lib.hid hR0
    have HK0 := Lib.hid hk0
    clear hR0 hk0 hvm
    go_wp2
    go_ret2
    exact PlPost.none HB2.out HR0.out HK0.out
  have HV := Lib.hid hvm
  clear hvm
  go_wp2_with fail
  refine (iEntryOf_any lo hi _ es a b z lb w2 (HES.out w2 HB2.out) (by omega)).mono ?_
  rintro e w3 ⟨rfl, b3⟩
  have hz3 : w.heap.size < w3.heap.size := by have := b3.size; omega
  have HB3 := Lib.hid (HB2.out.trans (b3.mono HB2.out.size))
  replace c00 := keepB b3 c00; replace c01 := keepB b3 c01; replace c02 := keepB b3 c02; replace c03 := keepB b3 c03
  clear b3 HB2
  obtain ⟨x, hx⟩ : ∃ x, x = entI es lb := ⟨_, rfl⟩
  rw [← hx]
  have HX := Lib.hid hx
  by_cases hneg : x < 0
  · obtain ⟨hR0, hk0⟩ := HNO.out (plB_false fun h9 => by have h8 : 0 ≤ entI es lb := h9.2.1; omega)
    have HR0 := Lib.hid hR0
    have HK0 := Lib.hid hk0
    clear hR0 hk0 hx
    go_wp2
    go_ret2
    exact PlPost.none HB3.out HR0.out HK0.out
  obtain ⟨i, rfl⟩ := Int.eq_ofNat_of_zero_le (show 0 ≤ x by omega)
  have hil : i < es.length := by rcases entI_rng es lb with h9 | ⟨j, h9, h8⟩ <;> omega
  have HY := Lib.hid (HYES.out i hx.symm)
  have HPB := Lib.hid (show ¬ (vMill es a b z = true ∧ (ge es i).ps.length = 0 ∧ vWan (ge es i).W ws xs = true ∧ 0 < xs.sum) → R = [] ∧ ok = false from fun h9 => HNO.out (plB_false fun h8 => h9 (by
    have e1 := h8.2.2
    dsimp only at e1
    rw [← hx, Int.toNat_natCast] at e1
    exact ⟨h8.1, e1⟩)))
  have HPT := Lib.hid (show vMill es a b z = true ∧ (ge es i).ps.length = 0 ∧ vWan (ge es i).W ws xs = true ∧ 0 < xs.sum → R = plE lb (slL (ge es i).W (ge es i).L (ge es i).ds ws (gr (gsL (ge es i).W ws xs) 0) 0 (ge es i).L) ∧ ok = true from fun h9 => HY.out (plB_iff.2 (by
    dsimp only
    rw [← hx, Int.toNat_natCast]
    exact ⟨h9.1, by omega, h9.2⟩)))
  have i0 : (0 : Int) ≤ (i : Int) := by omega
  have i1 : (i : Int) < (es.length : Int) := by omega
  clear hx HYES HNO HY HX hneg
  have hneg : ¬ (i : Int) < 0 := by omega
  obtain ⟨b9, o9, Ad, cd, Ap, cp, hA, hb91, hb92, j0, j1, j2, j3, j4, tds, _, hcd, hcd2, _⟩ := (HES.out w3 HB3.out).cell hil
  subst hA
  obtain ⟨n, hn⟩ : ∃ n, n = (ge es i).ps.length := ⟨_, rfl⟩
  obtain ⟨W, hW⟩ : ∃ W, W = (ge es i).W := ⟨_, rfl⟩
  obtain ⟨L, hL⟩ : ∃ L, L = (ge es i).L := ⟨_, rfl⟩
  obtain ⟨ds, hds⟩ : ∃ ds, ds = (ge es i).ds := ⟨_, rfl⟩
  rw [← hn] at j4
  rw [← hn, ← hW] at HPB
  rw [← hn, ← hW, ← hL, ← hds] at HPT
  rw [← hW] at j1
  rw [← hL] at j2
  rw [← hds] at j3 tds hcd
  have HTD := Lib.hid tds
  have H64 := Lib.hid (show I64 L by rw [hL]; obtain ⟨_, _, _, _, _, _, _, h5⟩ := HES.out w3 HB3.out; exact (h5 i hil).1.2.2)
  clear hn hW hL hds tds
  by_cases hn0 : 0 < n
  · have n1 : (0 : Int) < (n : Int) := by omega
    have n2 : (n : Int) > 0 := by omega
    obtain ⟨hR0, hk0⟩ := HPB.out (fun h9 => by omega)
    have HR0 := Lib.hid hR0
    have HK0 := Lib.hid hk0
    clear hR0 hk0
    go_wp2
    go_ret2
    exact PlPost.none HB3.out HR0.out HK0.out
  obtain rfl : n = 0 := by omega
  clear hn0
  go_wp2_with fail
  obtain ⟨w4, hw1⟩ : ∃ w4, w4 = w3.alloc (.cells #[.int .i64 W, .int .i64 L, .slice Ad ds.length cd] 55) := ⟨_, rfl⟩
  have r0 : w4.cell? ⟨w3.heap.size, 0, none⟩ = some (.int .i64 W) := by rw [hw1]; go_simp
  have r1 : w4.cell? ⟨w3.heap.size, 1, none⟩ = some (.int .i64 L) := by rw [hw1]; go_simp
  have r2 : w4.cell? ⟨w3.heap.size, 2, none⟩ = some (.slice Ad ds.length cd) := by rw [hw1]; go_simp
  have br : Below w3.heap.size w3 w4 := by rw [hw1]; exact (Below.refl _ _).alloc (Nat.le_refl _) _
  have zr : w3.heap.size < w4.heap.size := by rw [hw1]; simp
  rw [← hw1]
  clear hw1
  have HB4 := Lib.hid (HB3.out.trans (br.mono HB3.out.size))
  have HTD4 := Lib.hid (HTD.out.below br (by omega))
  have hz4 : w3.heap.size < w4.heap.size := zr
  clear br zr HTD
  obtain ⟨G, hG⟩ : ∃ G, G = gsL W ws xs := ⟨_, rfl⟩
  have HG := Lib.hid hG
  refine (GreedySets_any l2 h2 l3 h3 _ _ W ws xs w4 (HWS.out w4 HB4.out) (by omega) (HXS.out w4 HB4.out) (by omega)).mono ?_
  rw [← hG]
  rintro e w5 ⟨v5, rfl, o5, b5⟩
  obtain ⟨A5, c5, rfl, hc5, hm5⟩ := o5.form
  have HB5 := Lib.hid (HB4.out.trans (b5.mono HB4.out.size))
  have HTD5 := Lib.hid (HTD4.out.below b5 (by omega))
  have hz5 : w4.heap.size ≤ w5.heap.size := b5.size
  have HO5 := Lib.hid o5.rows
  replace r0 := keepB b5 r0; replace r1 := keepB b5 r1; replace r2 := keepB b5 r2
  rw [← hG] at HPT
  clear b5 o5 hG HTD4 c00 c01 c02 c03 j0 j1 j2 j3 j4
  by_cases hg0 : G.length = 0
  · have e0 : ((G.length : Int) == 0) = true := beq_t (by omega)
    obtain ⟨hR0, hk0⟩ := HPB.out (fun h9 => by have := gs_some h9.2.2.1 h9.2.2.2; rw [← HG.out] at this; omega)
    have HR0 := Lib.hid hR0
    have HK0 := Lib.hid hk0
    clear hR0 hk0 hg0
    go_wp2
    go_ret2
    exact PlPost.none HB5.out HR0.out HK0.out
  have e0 : ((G.length : Int) == 0) = false := beq_f (by omega)
  have hgw : vWan W ws xs = true ∧ 0 < xs.sum := by
    apply Classical.byContradiction
    intro h9
    rw [HG.out, gs_none h9] at hg0
    exact hg0 rfl
  obtain ⟨hRE, hokt⟩ := HPT.out ⟨HV.out, by first | rfl | trivial, hgw⟩
  subst hokt
  obtain ⟨P, hP⟩ : ∃ P, P = slL W L ds ws (gr G 0) 0 L := ⟨_, rfl⟩
  rw [← hP] at hRE
  have HP := Lib.hid hP
  have HRE := Lib.hid hRE
  have hP60 : P.length ≤ 60 := by rw [hP]; exact slL_len _ _ _ _ _ _ _
  obtain ⟨bo, oo, Ai, ci, hA5, hbl, hbh, cg, hci, hci2, hrow⟩ := HO5.out.row (r := 0) (by omega)
  subst hA5
  rw [Nat.add_zero] at cg
  have hG1 : (0 : Int) < (G.length : Int) := by omega
  have hG2 : 0 < G.length := by omega
  obtain ⟨C, hC⟩ : ∃ C, C = gr G 0 := ⟨_, rfl⟩
  rw [← hC] at cg hrow hci HP
  have HROW := Lib.hid hrow
  clear hgw hRE hP hC hrow HPT HPB hg0
  go_wp2
  refine wp_region_held_drew (S := fun w' => w'.cell? ⟨w3.heap.size, 0, none⟩ = some (.int .i64 W) ∧ w'.cell? ⟨w3.heap.size, 1, none⟩ = some (.int .i64 L) ∧ w'.cell? ⟨w3.heap.size, 2, none⟩ = some (.slice Ad ds.length cd) ∧ w'.cell? ⟨bo, oo, none⟩ = some (.slice Ai C.length ci)) (by kernel_rfl) ?_ (fun hHeld => ?_)
  · (first | (try dsimp only); go_keep | (go_split_ands; refine ⟨?_, ?_, ?_, ?_⟩ <;> first | exact keepB bx1 (by assumption) | assumption))
  refine tkW 0 48 rfl rfl (by kernel_rfl) hHeld (by intro w hSw; (try dsimp only at hSw); go_simp; try with_reducible rfl) ?_ (fun _ _ _ h => h)
  simp only [Act.put, lyA, lyB, lyC]
  refine tkW 1 49 rfl rfl (by kernel_rfl) hHeld (by intro w hSw; (try dsimp only at hSw); go_simp; try with_reducible rfl) ?_ (fun _ _ _ h => h)
  simp only [Act.put, lyA, lyB, lyC]
  refine tkW 2 50 rfl rfl (by kernel_rfl) hHeld (by intro w hSw; (try dsimp only at hSw); go_simp; try with_reducible rfl) ?_ (fun _ _ _ h => h)
  simp only [Act.put, lyA, lyB, lyC]
  refine tkW 3 51 rfl rfl (by kernel_rfl) hHeld (by intro w hSw; (try dsimp only at hSw); go_simp; try with_reducible rfl) ?_ (fun _ _ _ h => h)
  simp only [Act.put, lyA, lyB, lyC]
  refine tkW 4 52 rfl rfl (by kernel_rfl) hHeld (by intro w hSw; (try dsimp only at hSw); go_simp; try with_reducible rfl) ?_ (fun _ _ _ h => h)
  simp only [Act.put, lyA, lyB, lyC]
  refine tkW 5 53 rfl rfl (by kernel_rfl) hHeld (by intro w hSw; (try dsimp only at hSw); go_simp; try with_reducible rfl) ?_ (fun _ _ _ h => h)
  simp only [Act.put, lyA, lyB, lyC]
  refine tkW 6 54 rfl rfl (by kernel_rfl) hHeld (by intro w hSw; (try dsimp only at hSw); go_simp; try with_reducible rfl) ?_ (fun _ _ _ h => h)
  simp only [Act.put, lyA, lyB, lyC]
  refine tkW 9 57 rfl rfl (by kernel_rfl) hHeld (by intro w hSw; (try dsimp only at hSw); go_simp; try with_reducible rfl) ?_ (fun _ _ _ h => h)
  simp only [Act.put, lyA, lyB, lyC]
  refine wpAnyH_ready (rs := [7]) (by kernel_rfl) (by simp) ?_
  refine AllReadyH.cons (o := ⟨some 55, _, _, _, _, _⟩) rfl (fun K hK => ?_) AllReadyH.nil
  go_simp
  go_at_call 32
  refine (SlitReel_any lo hi l2 h2 w4.heap.size w5.heap.size W L _ _ _ ds ws C 0 L w5.drew (HTD5.out.drewN 1) (by show hi ≤ w5.heap.size; omega) ((HWS.out w5 HB5.out).drewN 1) (by show h2 ≤ w5.heap.size; omega) (HROW.out.drewN 1) (Nat.le_refl _) (by unfold I64; omega) H64.out).mono ?_
  rw [← HP.out]
  rintro e x1 ⟨v7, rfl, o7, bx1⟩
  obtain ⟨A7, c7, rfl, hc7, hm7⟩ := o7.form
  go_wp2_with fail
  refine hK.out _ _ ?_ (fun hHeld2 => ?_)
  · (first | (try dsimp only); go_keep | (go_split_ands; refine ⟨?_, ?_, ?_, ?_⟩ <;> first | exact keepB bx1 (by assumption) | assumption))
  clear hK K hHeld
  have hHeld := hHeld2
  clear hHeld2
  try simp only [Act.put, lyA, lyB, lyC]
  refine tkW 8 56 rfl rfl (by kernel_rfl) hHeld (by intro w hSw; (try dsimp only at hSw); go_simp; try with_reducible rfl) ?_ (fun _ _ _ h => h)
  simp only [Act.put, lyA, lyB, lyC]
  refine wpAnyH_done (by kernel_rfl) ?_ _
  focus
    try clear hHeld
    have HB6 := Lib.hid (HB5.out.trans ((of_drew bx1).mono HB5.out.size))
    have HP7 := Lib.hid o7.ts
    have hz6 : w5.heap.size ≤ x1.heap.size := (of_drew bx1).size
    clear bx1 o7 cg r0 r1 r2
    go_wp2
    go_loopw [13, 15, 57] (fun ev _ i wr => ∃ k : Nat, k ≤ P.length ∧ i = .int .i64 (k : Int) ∧ Hid (OwnT wr x1.heap.size 40 7 ev (evT (plE lb (P.take k)))) ∧ Hid (Below x1.heap.size x1 wr)) (fun _ _ i _ => P.length - (intOf i).toNat)
    case atStart => exact ⟨0, Nat.zero_le _, rfl, OwnT.nil _ _ _ _, Below.refl _ _⟩
    case round =>
      obtain ⟨k, hk, rfl, HO, HB⟩ := hrel
      obtain ⟨wo, rfl⟩ : ∃ wo : World, wo = wr := ⟨_, rfl⟩
      have hzo : x1.heap.size ≤ wo.heap.size := HB.out.size
      obtain ⟨Ao, co, rfl, hco, hco2⟩ := HO.out.form
      have hle : (evT (plE lb (P.take k))).length = k := by rw [evT_len, plE_len, List.length_take]; omega
      rw [hle] at HO hco ⊢
      have HLE := Lib.hid hle
      clear hle
      by_cases hlt : k < P.length
      rotate_left
      · have hnk : ¬ (k : Int) < (P.length : Int) := by omega
        have HE := Lib.hid (show OwnT wo w.heap.size 40 7 (.slice Ao k co) (evT R) by
          have h9 := HO.out.base (base' := w.heap.size) (by omega)
          rw [List.take_of_length_le (by omega)] at h9
          rw [HRE.out]; exact h9)
        have HBF := Lib.hid (HB6.out.trans (HB.out.mono HB6.out.size))
        go_wp2
        go_ret2
        exact ⟨_, rfl, HE.out, HBF.out⟩
      have k0 : (0 : Int) ≤ (k : Int) := by omega
      have k1 : (k : Int) < (P.length : Int) := by omega
      obtain ⟨b7, o7, hA7, _, _, p0, p1, p2, p3⟩ := (HP7.out.below HB.out (Nat.le_refl _)).c4 hlt
      subst hA7
      have HTK := Lib.hid (evT_plE lb hlt)
      have h64 : ∀ j, j < 4 → I64 (gi (gr P k) j) := fun j hj => by
        obtain ⟨_, _, _, _, _, _, h7⟩ := HP7.out
        have h8 := h7 _ (gr_mem hlt)
        rw [gi_eq (by omega)]
        exact h8.2 _ (List.getElem_mem _)
      have HI := Lib.hid (And.intro (h64 0 (by omega)) (And.intro (h64 1 (by omega)) (And.intro (h64 2 (by omega)) (h64 3 (by omega)))))
      obtain ⟨y0, hy0⟩ : ∃ y, y = gi (gr P k) 0 := ⟨_, rfl⟩
      obtain ⟨y1, hy1⟩ : ∃ y, y = gi (gr P k) 1 := ⟨_, rfl⟩
      obtain ⟨y2, hy2⟩ : ∃ y, y = gi (gr P k) 2 := ⟨_, rfl⟩
      obtain ⟨y3, hy3⟩ : ∃ y, y = gi (gr P k) 3 := ⟨_, rfl⟩
      rw [← hy0, ← hy1, ← hy2, ← hy3] at HI HTK
      rw [← hy0] at p0
      rw [← hy1] at p1
      rw [← hy2] at p2
      rw [← hy3] at p3
      have HY := Lib.hid (show ([2, lb, y0, y1, y2, y3, 0] : List Int).length = 7 ∧ ∀ n ∈ [2, lb, y0, y1, y2, y3, 0], I64 n from ⟨rfl, fun x hx => by
        have h1 := HI.out
        simp only [List.mem_cons, List.not_mem_nil, or_false] at hx
        rcases hx with rfl | rfl | rfl | rfl | rfl | rfl | rfl
        · unfold I64; omega
        · exact hlb
        · exact h1.1
        · exact h1.2.1
        · exact h1.2.2.1
        · exact h1.2.2.2
        · unfold I64; omega⟩)
      have bl : Below wo.heap.size wo (wo.alloc (.cells #[.int .i64 y0, .int .i64 y1, .int .i64 y2, .int .i64 y3] 38)) := (Below.refl _ _).alloc (Nat.le_refl _) _
      have HOX := Lib.hid (HO.out.kept (.of_below bl (Nat.le_refl _)))
      have HBX := Lib.hid (HB.out.trans (bl.mono hzo))
      have HL1 := Lib.hid (show ((evT (plE lb (P.take k))).length + 1) * 56 ≤ 140737488355328 by rw [HLE.out]; omega)
      have HL2 := Lib.hid (show (evT (plE lb (P.take k))).length ≤ 1099511627776 by rw [HLE.out]; omega)
      clear hy0 hy1 hy2 hy3 h64 bl HO HB
      go_wp2_with (at_builtin; refine wpList_appendTP SlEvent1 _ rfl (.tmp 61) (.tmp 65) rfl [2, lb, y0, y1, y2, y3, 0] _ rfl (wo.heap.size + 1) (by simp) x1.heap.size _ _ rfl rfl HOX.out HY.out HL1.out HL2.out (by simp; omega) ?_; intro v6 w6 ho6 hg6)
      have HO6 := Lib.hid (show OwnT w6 x1.heap.size 40 7 v6 (evT (plE lb (P.take (k + 1)))) by rw [HTK.out]; exact ho6)
      have HB9 := Lib.hid (HBX.out.trans hg6.below)
      clear ho6 hg6
      go_roundw
      case rel => exact ⟨k + 1, hlt, by go_num, HO6.out, HB9.out⟩
      case measure => simp [intOf]; omega
end Go.Proofs.YtkgepklapglmdaaGreatDoor

namespace Go.Proofs.YtkgepklapglmdaaGreatDoor
open Go.RowKit
attribute [local go_sem ↓] Go.wp_at_zero Go.wp_at_succ

theorem mergeP {F G : Nat → World → Prop} {Goal : Prop} (h1 : (∀ X w, F X w → G X w) → Goal) (h2 : ∀ X w, F X w → G X w) : Goal := h1 h2
set_option maxRecDepth 100000 in
set_option maxHeartbeats 4000000 in
theorem PlanCutsS_any (lo hi l2 h2 l3 h3 : Nat) (v u2 u3 : Value) (m : Mil) (lb : Int) (ws xs : List Int) (w : World) (h : ES w lo hi v m.es) (hhi : hi ≤ w.heap.size) (hin : I64 m.a ∧ I64 m.b ∧ I64 m.z) (hlb : I64 lb) (hw : Ints w l2 h2 u2 ws) (hh2 : h2 ≤ w.heap.size) (hx : Ints w l3 h3 u3 xs) (hh3 : h3 ≤ w.heap.size) :
    Calls Tryz.prog 9 #[.agg #[v, .int .i64 m.a, .int .i64 m.b, .int .i64 m.z], .int .i64 lb, u2, u3] w fun e w' => PlPost w (plL m lb ws xs) (plB m lb ws xs) e w' := by
  obtain ⟨es, a, b, z⟩ := m
  dsimp only at h hin ⊢
  obtain ⟨A, c, rfl, hc, hm⟩ := h.form
  obtain ⟨A2, c2, rfl, hc2, hm2⟩ := hw.form
  obtain ⟨A3, c3, rfl, hc3, hm3⟩ := hx.form
  have HES := Lib.hid (show ∀ w1, Below w.heap.size w w1 → ES w1 lo hi (.slice A es.length c) es from fun w1 hb => h.below hb hhi)
  have HWS := Lib.hid (show ∀ w1, Below w.heap.size w w1 → Ints w1 l2 h2 (.slice A2 ws.length c2) ws from fun w1 hb => hw.below hb hh2)
  have HXS := Lib.hid (show ∀ w1, Below w.heap.size w w1 → Ints w1 l3 h3 (.slice A3 xs.length c3) xs from fun w1 hb => hx.below hb hh3)
  obtain ⟨R, hR⟩ : ∃ R, R = plL ⟨es, a, b, z⟩ lb ws xs := ⟨_, rfl⟩
  obtain ⟨ok, hok⟩ : ∃ ok, ok = plB ⟨es, a, b, z⟩ lb ws xs := ⟨_, rfl⟩
  rw [← hR, ← hok]
  have HNO := Lib.hid (show plB ⟨es, a, b, z⟩ lb ws xs = false → R = [] ∧ ok = false from fun h9 => ⟨by rw [hR]; unfold plL; rw [h9]; rfl, by rw [hok, h9]⟩)
  have HYES := Lib.hid (show ∀ i : Nat, entI es lb = (i : Int) → plB ⟨es, a, b, z⟩ lb ws xs = true → R = plE lb (slL (ge es i).W (ge es i).L (ge es i).ds ws (gr (gsL (ge es i).W ws xs) 0) 0 (ge es i).L) ∧ ok = true from fun i hi h9 => ⟨by rw [hR]; unfold plL; rw [if_pos h9]; dsimp only; rw [hi, Int.toNat_natCast], by rw [hok, h9]⟩)
  clear h hw hx hR hok
  have Hs := Lib.hid (show ∃ w1, w1 = (w.alloc (.cells #[.slice A es.length c, .int .i64 a, .int .i64 b, .int .i64 z] 25)) ∧ Below w.heap.size w w1 ∧ w1.cell? ⟨w.heap.size, 0, none⟩ = some (.slice A es.length c) ∧ w1.cell? ⟨w.heap.size, 1, none⟩ = some (.int .i64 a) ∧ w1.cell? ⟨w.heap.size, 2, none⟩ = some (.int .i64 b) ∧ w1.cell? ⟨w.heap.size, 3, none⟩ = some (.int .i64 z) ∧ w.heap.size < w1.heap.size from by
    have hb : Below w.heap.size w (w.alloc (.cells #[.slice A es.length c, .int .i64 a, .int .i64 b, .int .i64 z] 25)) := (Below.refl _ _).alloc (Nat.le_refl _) _
    exact ⟨_, rfl, hb, by go_simp, by go_simp, by go_simp, by go_simp, by simp⟩)
  go_enter Tryz.func9, Tryz.ntmps9
  go_wp2_with fail
  obtain ⟨w1, hw1, hb0, c00, c01, c02, c03, hz⟩ := Hs.out
  rw [← hw1]
  clear hw1 Hs
  have he1 := HES.out w1 hb0
  refine (validMill_any lo hi _ es a b z w1 he1 (by omega) ⟨hin.2.1, hin.2.2⟩).mono ?_
  rintro e w2 ⟨rfl, b2⟩
  have hz2 : w.heap.size < w2.heap.size := by have := b2.size; omega
  have HB2 := Lib.hid (hb0.trans (b2.mono hb0.size))
  replace c00 := keepB b2 c00; replace c01 := keepB b2 c01; replace c02 := keepB b2 c02; replace c03 := keepB b2 c03
  clear b2 he1 hb0
  cases hvm : vMill es a b z
  · obtain ⟨hR0, hk0⟩ := HNO.out (plB_false fun h9 => by have h8 : vMill es a b z = true := h9.1; rw [hvm] at h8; cases h8)
    have HR0 := Lib.hid hR0
    have HK0 := Lib.hid hk0
    clear hR0 hk0 hvm
    go_wp2
    go_ret2
    exact PlPost.none HB2.out HR0.out HK0.out
  have HV := Lib.hid hvm
  clear hvm
  go_wp2_with fail
  refine (entryOf_any lo hi _ es a b z lb w2 (HES.out w2 HB2.out) (by omega)).mono ?_
  rintro e w3 ⟨rfl, b3⟩
  have hz3 : w.heap.size < w3.heap.size := by have := b3.size; omega
  have HB3 := Lib.hid (HB2.out.trans (b3.mono HB2.out.size))
  replace c00 := keepB b3 c00; replace c01 := keepB b3 c01; replace c02 := keepB b3 c02; replace c03 := keepB b3 c03
  clear b3 HB2
  obtain ⟨x, hx⟩ : ∃ x, x = entI es lb := ⟨_, rfl⟩
  rw [← hx]
  by_cases hneg : x < 0
  · obtain ⟨hR0, hk0⟩ := HNO.out (plB_false fun h9 => by have h8 : 0 ≤ entI es lb := h9.2.1; omega)
    have HR0 := Lib.hid hR0
    have HK0 := Lib.hid hk0
    clear hR0 hk0 hx
    go_wp2
    go_ret2
    exact PlPost.none HB3.out HR0.out HK0.out
  obtain ⟨i, rfl⟩ := Int.eq_ofNat_of_zero_le (show 0 ≤ x by omega)
  have hil : i < es.length := by rcases entI_rng es lb with h9 | ⟨j, h9, h8⟩ <;> omega
  have HEI := Lib.hid (show entI es lb = (i : Int) from hx.symm)
  have HY := Lib.hid (HYES.out i hx.symm)
  have HPB := Lib.hid (show ¬ (vMill es a b z = true ∧ (ge es i).ps.length = 0 ∧ vWan (ge es i).W ws xs = true ∧ 0 < xs.sum) → R = [] ∧ ok = false from fun h9 => HNO.out (plB_false fun h8 => h9 (by
    have e1 := h8.2.2
    dsimp only at e1
    rw [← hx, Int.toNat_natCast] at e1
    exact ⟨h8.1, e1⟩)))
  have HPT := Lib.hid (show vMill es a b z = true ∧ (ge es i).ps.length = 0 ∧ vWan (ge es i).W ws xs = true ∧ 0 < xs.sum → R = plE lb (slL (ge es i).W (ge es i).L (ge es i).ds ws (gr (gsL (ge es i).W ws xs) 0) 0 (ge es i).L) ∧ ok = true from fun h9 => HY.out (plB_iff.2 (by
    dsimp only
    rw [← hx, Int.toNat_natCast]
    exact ⟨h9.1, by omega, h9.2⟩)))
  have i0 : (0 : Int) ≤ (i : Int) := by omega
  have i1 : (i : Int) < (es.length : Int) := by omega
  clear hx HYES HNO HY hneg
  have hneg : ¬ (i : Int) < 0 := by omega
  obtain ⟨b9, o9, Ad, cd, Ap, cp, hA, hb91, hb92, j0, j1, j2, j3, j4, tds, _, hcd, hcd2, _⟩ := (HES.out w3 HB3.out).cell hil
  subst hA
  obtain ⟨n, hn⟩ : ∃ n, n = (ge es i).ps.length := ⟨_, rfl⟩
  obtain ⟨W, hW⟩ : ∃ W, W = (ge es i).W := ⟨_, rfl⟩
  obtain ⟨L, hL⟩ : ∃ L, L = (ge es i).L := ⟨_, rfl⟩
  obtain ⟨ds, hds⟩ : ∃ ds, ds = (ge es i).ds := ⟨_, rfl⟩
  obtain ⟨l0, hl0⟩ : ∃ l0, l0 = (ge es i).lb := ⟨_, rfl⟩
  rw [← hn] at j4
  rw [← hn, ← hW] at HPB
  rw [← hn, ← hW, ← hL, ← hds] at HPT
  rw [← hl0] at j0
  rw [← hW] at j1
  rw [← hL] at j2
  rw [← hds] at j3 tds hcd
  have HTD := Lib.hid tds
  have H64 := Lib.hid (show I64 L by rw [hL]; obtain ⟨_, _, _, _, _, _, _, h5⟩ := HES.out w3 HB3.out; exact (h5 i hil).1.2.2)
  clear hn hW hL hds hl0 tds
  have hne1 : ¬ w3.heap.size = w.heap.size := by omega
  have hne2 : ¬ w.heap.size = w3.heap.size := by omega
  have hne3 : ¬ w3.heap.size = b9 := by omega
  have hne4 : ¬ b9 = w3.heap.size := by omega
  go_wp2
  refine' mergeP (F := fun X w' => Below w3.heap.size w3 w' ∧ w3.heap.size ≤ X ∧ X < w'.heap.size ∧ w'.cell? ⟨X, 0, none⟩ = some (.int .i64 l0) ∧ w'.cell? ⟨X, 1, none⟩ = some (.int .i64 W) ∧ w'.cell? ⟨X, 2, none⟩ = some (.int .i64 L) ∧ w'.cell? ⟨X, 3, none⟩ = some (.slice Ad ds.length cd) ∧ w'.cell? ⟨X, 4, none⟩ = some (.slice Ap n cp)) (fun hk => ?_) (fun X w4 hF => ?_)
  rotate_left 1
  ·
    refine wp_region_held_drew (S := fun w' => w'.cell? ⟨w.heap.size, 0, none⟩ = some (.slice (some ⟨b9, o9, none⟩) es.length c) ∧ w'.cell? ⟨w.heap.size, 1, none⟩ = some (.int .i64 a) ∧ w'.cell? ⟨w.heap.size, 2, none⟩ = some (.int .i64 b) ∧ w'.cell? ⟨w.heap.size, 3, none⟩ = some (.int .i64 z) ∧ w'.cell? ⟨b9, o9 + i * 5, none⟩ = some (.int .i64 l0) ∧ w'.cell? ⟨b9, o9 + i * 5 + 1, none⟩ = some (.int .i64 W) ∧ w'.cell? ⟨b9, o9 + i * 5 + 2, none⟩ = some (.int .i64 L) ∧ w'.cell? ⟨b9, o9 + i * 5 + 3, none⟩ = some (.slice Ad ds.length cd) ∧ w'.cell? ⟨b9, o9 + i * 5 + 4, none⟩ = some (.slice Ap n cp)) (by kernel_rfl) ?_ (fun hHeld => ?_)
    · (first | (try dsimp only); go_keep | (go_split_ands; refine ⟨?_, ?_, ?_, ?_, ?_, ?_, ?_, ?_, ?_⟩ <;> first | exact keepB bx2 (by assumption) | exact keepB bx1 (by assumption) | assumption))
    refine tkW 0 23 rfl rfl (by kernel_rfl) hHeld (by intro w hSw; (try dsimp only at hSw); go_simp; try with_reducible rfl) ?_ (fun _ _ _ h => h)
    simp only [Act.put, lyA, lyB, lyC]
    refine tkW 1 24 rfl rfl (by kernel_rfl) hHeld (by intro w hSw; (try dsimp only at hSw); go_simp; try with_reducible rfl) ?_ (fun _ _ _ h => h)
    simp only [Act.put, lyA, lyB, lyC]
    refine tkW 2 25 rfl rfl (by kernel_rfl) hHeld (by intro w hSw; (try dsimp only at hSw); go_simp; try with_reducible rfl) ?_ (fun _ _ _ h => h)
    simp only [Act.put, lyA, lyB, lyC]
    refine tkW 3 26 rfl rfl (by kernel_rfl) hHeld (by intro w hSw; (try dsimp only at hSw); go_simp; try with_reducible rfl) ?_ (fun _ _ _ h => h)
    simp only [Act.put, lyA, lyB, lyC]
    refine wpAnyH_ready (rs := [4, 7]) (by kernel_rfl) (by simp) (AllReadyH.cons (o := ⟨some 27, _, _, _, _, _⟩) rfl (fun K hK => ?_) (AllReadyH.cons (o := ⟨some 10, _, _, _, _, _⟩) rfl (fun K hK => ?_) (AllReadyH.nil)))
    focus
      go_simp
      go_at_call 34
      refine (entryOf_any lo hi _ es a b z lb w3.drew ((HES.out w3 HB3.out).kept fun _ _ _ => rfl) (by show hi ≤ w3.heap.size; omega)).mono ?_
      rw [HEI.out]
      rintro e x1 ⟨rfl, bx1⟩
      have by1 := of_drew bx1
      replace c00 := keepB by1 c00; replace c01 := keepB by1 c01; replace c02 := keepB by1 c02; replace c03 := keepB by1 c03; replace j0 := keepB by1 j0; replace j1 := keepB by1 j1; replace j2 := keepB by1 j2; replace j3 := keepB by1 j3; replace j4 := keepB by1 j4
      go_wp2_with fail
      refine hK.out _ _ ?_ (fun hHeld2 => ?_)
      · (first | (try dsimp only); go_keep | (go_split_ands; refine ⟨?_, ?_, ?_, ?_, ?_, ?_, ?_, ?_, ?_⟩ <;> first | exact keepB bx2 (by assumption) | exact keepB bx1 (by assumption) | assumption))
      clear hK K hHeld
      have hHeld := hHeld2
      clear hHeld2
      try simp only [Act.put, lyA, lyB, lyC]
      refine tkW 5 28 rfl rfl (by kernel_rfl) hHeld (by intro w hSw; (try dsimp only at hSw); go_simp; try with_reducible rfl) ?_ (fun _ _ _ h => h)
      simp only [Act.put, lyA, lyB, lyC]
      refine tkW 6 29 rfl rfl (by kernel_rfl) hHeld (by intro w hSw; (try dsimp only at hSw); go_simp; try with_reducible rfl) ?_ (fun _ _ _ h => h)
      simp only [Act.put, lyA, lyB, lyC]
      refine wpAnyH_ready (rs := [7]) (by kernel_rfl) (by simp) ?_
      refine AllReadyH.cons (o := ⟨some 10, _, _, _, _, _⟩) rfl (fun K hK => ?_) AllReadyH.nil
      go_simp
      refine hK.out _ _ ?_ (fun hHeld2 => ?_)
      · (first | (try dsimp only); go_keep | (go_split_ands; refine ⟨?_, ?_, ?_, ?_, ?_, ?_, ?_, ?_, ?_⟩ <;> first | exact keepB bx2 (by assumption) | exact keepB bx1 (by assumption) | assumption))
      clear hK K hHeld
      have hHeld := hHeld2
      clear hHeld2
      try simp only [Act.put, lyA, lyB, lyC]
      refine wpAnyH_ready (rs := [8]) (by kernel_rfl) (by simp) ?_
      refine AllReadyH.cons (o := ⟨none, _, _, _, _, _⟩) rfl (fun K hK => ?_) AllReadyH.nil
      go_simp
      refine hK.out _ _ ?_ (fun hHeld2 => ?_)
      · (first | (try dsimp only); go_keep | (go_split_ands; refine ⟨?_, ?_, ?_, ?_, ?_, ?_, ?_, ?_, ?_⟩ <;> first | exact keepB bx2 (by assumption) | exact keepB bx1 (by assumption) | assumption))
      clear hK K hHeld
      have hHeld := hHeld2
      clear hHeld2
      try simp only [Act.put, lyA, lyB, lyC]
      refine wpAnyH_done (by kernel_rfl) ?_ _
    rotate_left 1
    focus
      go_simp
      refine hK.out _ _ ?_ (fun hHeld2 => ?_)
      · (first | (try dsimp only); go_keep | (go_split_ands; refine ⟨?_, ?_, ?_, ?_, ?_, ?_, ?_, ?_, ?_⟩ <;> first | exact keepB bx2 (by assumption) | exact keepB bx1 (by assumption) | assumption))
      clear hK K hHeld
      have hHeld := hHeld2
      clear hHeld2
      try simp only [Act.put, lyA, lyB, lyC]
      refine wpAnyH_ready (rs := [4]) (by kernel_rfl) (by simp) ?_
      refine AllReadyH.cons (o := ⟨some 27, _, _, _, _, _⟩) rfl (fun K hK => ?_) AllReadyH.nil
      go_simp
      go_at_call 34
      obtain ⟨wq, hwq⟩ : ∃ wq, wq = (w3.alloc (.cells #[.int .i64 0, .int .i64 0, .int .i64 0, .slice none 0 0, .slice none 0 0] 58)).drew := ⟨_, rfl⟩
      have bq : Below w3.heap.size w3 wq := by rw [hwq]; exact ((Below.refl _ _).alloc (Nat.le_refl _) _).trans ((Qt.one _ 1).below _)
      have d0 : wq.cell? ⟨w3.heap.size, 0, none⟩ = some (.int .i64 0) := by rw [hwq]; go_simp
      have fd0 : wq.frozen? ⟨w3.heap.size, 0, none⟩ = false := by rw [hwq]; go_simp
      have d1 : wq.cell? ⟨w3.heap.size, 1, none⟩ = some (.int .i64 0) := by rw [hwq]; go_simp
      have fd1 : wq.frozen? ⟨w3.heap.size, 1, none⟩ = false := by rw [hwq]; go_simp
      have d2 : wq.cell? ⟨w3.heap.size, 2, none⟩ = some (.int .i64 0) := by rw [hwq]; go_simp
      have fd2 : wq.frozen? ⟨w3.heap.size, 2, none⟩ = false := by rw [hwq]; go_simp
      have d3 : wq.cell? ⟨w3.heap.size, 3, none⟩ = some (.slice none 0 0) := by rw [hwq]; go_simp
      have fd3 : wq.frozen? ⟨w3.heap.size, 3, none⟩ = false := by rw [hwq]; go_simp
      have d4 : wq.cell? ⟨w3.heap.size, 4, none⟩ = some (.slice none 0 0) := by rw [hwq]; go_simp
      have fd4 : wq.frozen? ⟨w3.heap.size, 4, none⟩ = false := by rw [hwq]; go_simp
      have hqa : w3.heap.size < wq.heap.size := by rw [hwq]; simp
      rw [← hwq]
      clear hwq
      replace c00 := keepB bq c00; replace c01 := keepB bq c01; replace c02 := keepB bq c02; replace c03 := keepB bq c03; replace j0 := keepB bq j0; replace j1 := keepB bq j1; replace j2 := keepB bq j2; replace j3 := keepB bq j3; replace j4 := keepB bq j4
      refine (entryOf_any lo hi _ es a b z lb wq (HES.out wq (HB3.out.trans (bq.mono HB3.out.size))) (by have := bq.size; omega)).mono ?_
      rw [HEI.out]
      rintro e x1 ⟨rfl, bx1⟩
      have by1 := bq.trans (bx1.mono bq.size)
      replace c00 := keepB bx1 c00; replace c01 := keepB bx1 c01; replace c02 := keepB bx1 c02; replace c03 := keepB bx1 c03; replace j0 := keepB bx1 j0; replace j1 := keepB bx1 j1; replace j2 := keepB bx1 j2; replace j3 := keepB bx1 j3; replace j4 := keepB bx1 j4; replace d0 := keepB bx1 d0; replace d1 := keepB bx1 d1; replace d2 := keepB bx1 d2; replace d3 := keepB bx1 d3; replace d4 := keepB bx1 d4
      replace fd0 := keepF bx1 (by first | (simp; done) | (simp; omega)) fd0; replace fd1 := keepF bx1 (by first | (simp; done) | (simp; omega)) fd1; replace fd2 := keepF bx1 (by first | (simp; done) | (simp; omega)) fd2; replace fd3 := keepF bx1 (by first | (simp; done) | (simp; omega)) fd3; replace fd4 := keepF bx1 (by first | (simp; done) | (simp; omega)) fd4
      clear bq
      go_wp2_with fail
      refine hK.out _ _ ?_ (fun hHeld2 => ?_)
      · (first | (try dsimp only); go_keep | (go_split_ands; refine ⟨?_, ?_, ?_, ?_, ?_, ?_, ?_, ?_, ?_⟩ <;> first | exact keepB bx2 (by assumption) | exact keepB bx1 (by assumption) | assumption))
      clear hK K hHeld
      have hHeld := hHeld2
      clear hHeld2
      try simp only [Act.put, lyA, lyB, lyC]
      refine tkW 5 28 rfl rfl (by kernel_rfl) hHeld (by intro w hSw; (try dsimp only at hSw); go_simp; try with_reducible rfl) ?_ (fun _ _ _ h => h)
      simp only [Act.put, lyA, lyB, lyC]
      refine tkW 6 29 rfl rfl (by kernel_rfl) hHeld (by intro w hSw; (try dsimp only at hSw); go_simp; try with_reducible rfl) ?_ (fun _ _ _ h => h)
      simp only [Act.put, lyA, lyB, lyC]
      refine wpAnyH_ready (rs := [8]) (by kernel_rfl) (by simp) ?_
      refine AllReadyH.cons (o := ⟨none, _, _, _, _, _⟩) rfl (fun K hK => ?_) AllReadyH.nil
      go_simp
      refine hK.out _ _ ?_ (fun hHeld2 => ?_)
      · (first | (try dsimp only); go_keep | (go_split_ands; refine ⟨?_, ?_, ?_, ?_, ?_, ?_, ?_, ?_, ?_⟩ <;> first | exact keepB bx2 (by assumption) | exact keepB bx1 (by assumption) | assumption))
      clear hK K hHeld
      have hHeld := hHeld2
      clear hHeld2
      try simp only [Act.put, lyA, lyB, lyC]
      refine wpAnyH_done (by kernel_rfl) ?_ _
    rotate_left 1
    focus
      obtain ⟨wz, hwz⟩ : ∃ wz, wz = x1.alloc (.cells #[.int .i64 l0, .int .i64 W, .int .i64 L, .slice Ad ds.length cd, .slice Ap n cp] 58) := ⟨_, rfl⟩
      have bz : Below x1.heap.size x1 wz := by rw [hwz]; exact (Below.refl _ _).alloc (Nat.le_refl _) _
      have e0 : wz.cell? ⟨x1.heap.size, 0, none⟩ = some (.int .i64 l0) := by rw [hwz]; go_simp
      have e1 : wz.cell? ⟨x1.heap.size, 1, none⟩ = some (.int .i64 W) := by rw [hwz]; go_simp
      have e2 : wz.cell? ⟨x1.heap.size, 2, none⟩ = some (.int .i64 L) := by rw [hwz]; go_simp
      have e3 : wz.cell? ⟨x1.heap.size, 3, none⟩ = some (.slice Ad ds.length cd) := by rw [hwz]; go_simp
      have e4 : wz.cell? ⟨x1.heap.size, 4, none⟩ = some (.slice Ap n cp) := by rw [hwz]; go_simp
      have hzz : x1.heap.size < wz.heap.size := by rw [hwz]; simp
      have hbz := by1.trans (bz.mono by1.size)
      have hzx := by1.size
      obtain ⟨X9, hX9⟩ : ∃ X, X = x1.heap.size := ⟨_, rfl⟩
      rw [← hX9] at e0 e1 e2 e3 e4 hzz
      rw [← hX9, ← hwz]
      exact hk X9 wz ⟨hbz, by omega, hzz, e0, e1, e2, e3, e4⟩
    focus
      obtain ⟨wz, hwz⟩ : ∃ wz, wz = (((((x1.setCell ⟨w3.heap.size, 0, none⟩ (.int .i64 l0)).setCell ⟨w3.heap.size, 1, none⟩ (.int .i64 W)).setCell ⟨w3.heap.size, 2, none⟩ (.int .i64 L)).setCell ⟨w3.heap.size, 3, none⟩ (.slice Ad ds.length cd)).setCell ⟨w3.heap.size, 4, none⟩ (.slice Ap n cp)) := ⟨_, rfl⟩
      have e0 : wz.cell? ⟨w3.heap.size, 0, none⟩ = some (.int .i64 l0) := by rw [hwz]; go_simp
      have e1 : wz.cell? ⟨w3.heap.size, 1, none⟩ = some (.int .i64 W) := by rw [hwz]; go_simp
      have e2 : wz.cell? ⟨w3.heap.size, 2, none⟩ = some (.int .i64 L) := by rw [hwz]; go_simp
      have e3 : wz.cell? ⟨w3.heap.size, 3, none⟩ = some (.slice Ad ds.length cd) := by rw [hwz]; go_simp
      have e4 : wz.cell? ⟨w3.heap.size, 4, none⟩ = some (.slice Ap n cp) := by rw [hwz]; go_simp
      have hbz : Below w3.heap.size w3 wz := by rw [hwz]; exact (((((by1.setCell (p := ⟨_, _, _⟩) (Nat.le_refl _) _).setCell (p := ⟨_, _, _⟩) (Nat.le_refl _) _).setCell (p := ⟨_, _, _⟩) (Nat.le_refl _) _).setCell (p := ⟨_, _, _⟩) (Nat.le_refl _) _).setCell (p := ⟨_, _, _⟩) (Nat.le_refl _) _)
      have hzz : w3.heap.size < wz.heap.size := by have h9 : wz.heap.size = x1.heap.size := by rw [hwz]; simp [World.setCell]
                                                   have := bx1.size; omega
      obtain ⟨X9, hX9⟩ : ∃ X, X = w3.heap.size := ⟨_, rfl⟩
      rw [← hX9] at e0 e1 e2 e3 e4
      rw [← hwz, ← hX9]
      exact hk X9 wz ⟨hbz, by omega, by omega, e0, e1, e2, e3, e4⟩
  obtain ⟨b4, hX1, hX2, e0, e1, e2, e3, e4⟩ := hF
  have hz4 : w3.heap.size ≤ w4.heap.size := b4.size
  have HB4 := Lib.hid (HB3.out.trans (b4.mono HB3.out.size))
  have HTD4 := Lib.hid (HTD.out.below b4 (by omega))
  clear b4 HTD HES HEI c00 c01 c02 c03 j0 j1 j2 j3 j4
  by_cases hn0 : 0 < n
  · have n1 : (0 : Int) < (n : Int) := by omega
    have n2 : (n : Int) > 0 := by omega
    obtain ⟨hR0, hk0⟩ := HPB.out (fun h9 => by omega)
    have HR0 := Lib.hid hR0
    have HK0 := Lib.hid hk0
    clear hR0 hk0
    go_wp2
    go_ret2
    exact PlPost.none HB4.out HR0.out HK0.out
  obtain rfl : n = 0 := by omega
  clear hn0
  go_wp2_with fail
  refine (validWants_any l2 h2 l3 h3 W _ _ ws xs w4 (HWS.out w4 HB4.out) (HXS.out w4 HB4.out)).mono ?_
  rintro e w5 ⟨rfl, hq⟩
  have b5 := hq.below w4.heap.size
  have HB5 := Lib.hid (HB4.out.trans (b5.mono HB4.out.size))
  have HTD5 := Lib.hid (HTD4.out.below b5 (by omega))
  have hz5 : w4.heap.size ≤ w5.heap.size := b5.size
  replace e0 := keepB b5 e0; replace e1 := keepB b5 e1; replace e2 := keepB b5 e2; replace e3 := keepB b5 e3; replace e4 := keepB b5 e4
  clear hq b5 HTD4
  cases hvw : vWan W ws xs
  · obtain ⟨hR0, hk0⟩ := HPB.out (fun h9 => by have := h9.2.2.1; rw [hvw] at this; cases this)
    have HR0 := Lib.hid hR0
    have HK0 := Lib.hid hk0
    clear hR0 hk0 hvw
    go_wp2
    go_ret2
    exact PlPost.none HB5.out HR0.out HK0.out
  have HVW := Lib.hid hvw
  have hvd := vWan_iff.1 hvw
  have hvl := vWid_iff.1 hvd.1
  obtain ⟨sm, hsm⟩ : ∃ s, s = xs.sum := ⟨_, rfl⟩
  have HSM := Lib.hid hsm
  have hx6 : xs.length ≤ 6 := by omega
  have HXB := Lib.hid (show ∀ i, i < xs.length → 0 ≤ gi xs i ∧ gi xs i ≤ 1000 from fun i hi => by have := hvd.2.2.1 i hi; omega)
  have hsr : 0 ≤ sm ∧ sm ≤ 60 := by
    have h1 := (sumG_pos (ys := xs) fun i hi => (hvd.2.2.1 i hi).1).1
    have h2 := hvd.2.2.2
    omega
  clear hvw hvd hvl hsm
  go_wp2_with fail
  refine (sTotalG_any l3 h3 _ xs w5 (HXS.out w5 HB5.out) (by omega) HXB.out).mono ?_
  rw [sumI_all, ← HSM.out]
  rintro e x9 ⟨rfl, rfl⟩
  by_cases hs0 : sm = 0
  · have q0 : (sm == 0) = true := beq_t hs0
    obtain ⟨hR0, hk0⟩ := HPB.out (fun h9 => by have := h9.2.2.2; rw [← HSM.out] at this; omega)
    have HR0 := Lib.hid hR0
    have HK0 := Lib.hid hk0
    clear hR0 hk0 hs0
    go_wp2
    go_ret2
    exact PlPost.none HB5.out HR0.out HK0.out
  have q0 : (sm == 0) = false := beq_f hs0
  obtain ⟨hRE, hokt⟩ := HPT.out ⟨HV.out, by first | rfl | trivial, HVW.out, by rw [← HSM.out]; omega⟩
  subst hokt
  obtain ⟨G, hG⟩ : ∃ G, G = gsL W ws xs := ⟨_, rfl⟩
  rw [← hG] at hRE
  have HG := Lib.hid hG
  have hG2 : 0 < G.length := by rw [hG]; exact gs_some HVW.out (by rw [← HSM.out]; omega)
  obtain ⟨P, hP⟩ : ∃ P, P = slL W L ds ws (gr G 0) 0 L := ⟨_, rfl⟩
  rw [← hP] at hRE
  have HP := Lib.hid hP
  have HRE := Lib.hid hRE
  have hP60 : P.length ≤ 60 := by rw [hP]; exact slL_len _ _ _ _ _ _ _
  obtain ⟨w6, hw6⟩ : ∃ w6, w6 = w5.alloc (.cells #[] 40) := ⟨_, rfl⟩
  have b6 : Below w5.heap.size w5 w6 := by rw [hw6]; exact (Below.refl _ _).alloc (Nat.le_refl _) _
  have HO6 := Lib.hid (show OwnT w6 w5.heap.size 40 7 (.slice (some ⟨w5.heap.size, 0, none⟩) 0 0) [] by rw [hw6]; exact OwnT.empty w5 _ _ _ (Nat.le_refl _))
  have HB6 := Lib.hid (HB5.out.trans (b6.mono HB5.out.size))
  have HTD6 := Lib.hid (HTD5.out.below b6 (by omega))
  have hz6 : w5.heap.size ≤ w6.heap.size := b6.size
  have HW6 := Lib.hid hw6
  clear hG hP hRE hw6 HTD5 HPB HPT hs0 hsr
  go_wp2
  rw [← HW6.out]
  replace e0 := keepB b6 e0; replace e1 := keepB b6 e1; replace e2 := keepB b6 e2; replace e3 := keepB b6 e3; replace e4 := keepB b6 e4
  clear b6 HW6
  refine wp_region_held_drew (S := fun w' => w'.cell? ⟨X, 0, none⟩ = some (.int .i64 l0) ∧ w'.cell? ⟨X, 1, none⟩ = some (.int .i64 W) ∧ w'.cell? ⟨X, 2, none⟩ = some (.int .i64 L) ∧ w'.cell? ⟨X, 3, none⟩ = some (.slice Ad ds.length cd) ∧ w'.cell? ⟨X, 4, none⟩ = some (.slice Ap 0 cp)) (by kernel_rfl) ?_ (fun hHeld => ?_)
  · (first | (try dsimp only); go_keep | (go_split_ands; refine ⟨?_, ?_, ?_, ?_, ?_⟩ <;> first | exact keepB bx2 (by assumption) | exact keepB bx1 (by assumption) | assumption))
  refine tkW 0 49 rfl rfl (by kernel_rfl) hHeld (by intro w hSw; (try dsimp only at hSw); go_simp; try with_reducible rfl) ?_ (fun _ _ _ h => h)
  simp only [Act.put, lyA, lyB, lyC]
  refine tkW 1 50 rfl rfl (by kernel_rfl) hHeld (by intro w hSw; (try dsimp only at hSw); go_simp; try with_reducible rfl) ?_ (fun _ _ _ h => h)
  simp only [Act.put, lyA, lyB, lyC]
  refine tkW 2 51 rfl rfl (by kernel_rfl) hHeld (by intro w hSw; (try dsimp only at hSw); go_simp; try with_reducible rfl) ?_ (fun _ _ _ h => h)
  simp only [Act.put, lyA, lyB, lyC]
  refine tkW 3 52 rfl rfl (by kernel_rfl) hHeld (by intro w hSw; (try dsimp only at hSw); go_simp; try with_reducible rfl) ?_ (fun _ _ _ h => h)
  simp only [Act.put, lyA, lyB, lyC]
  refine tkW 4 53 rfl rfl (by kernel_rfl) hHeld (by intro w hSw; (try dsimp only at hSw); go_simp; try with_reducible rfl) ?_ (fun _ _ _ h => h)
  simp only [Act.put, lyA, lyB, lyC]
  refine tkW 5 54 rfl rfl (by kernel_rfl) hHeld (by intro w hSw; (try dsimp only at hSw); go_simp; try with_reducible rfl) ?_ (fun _ _ _ h => h)
  simp only [Act.put, lyA, lyB, lyC]
  refine tkW 6 55 rfl rfl (by kernel_rfl) hHeld (by intro w hSw; (try dsimp only at hSw); go_simp; try with_reducible rfl) ?_ (fun _ _ _ h => h)
  simp only [Act.put, lyA, lyB, lyC]
  refine tkW 7 56 rfl rfl (by kernel_rfl) hHeld (by intro w hSw; (try dsimp only at hSw); go_simp; try with_reducible rfl) ?_ (fun _ _ _ h => h)
  simp only [Act.put, lyA, lyB, lyC]
  refine tkW 11 60 rfl rfl (by kernel_rfl) hHeld (by intro w hSw; (try dsimp only at hSw); go_simp; try with_reducible rfl) ?_ (fun _ _ _ h => h)
  simp only [Act.put, lyA, lyB, lyC]
  refine tkW 12 61 rfl rfl (by kernel_rfl) hHeld (by intro w hSw; (try dsimp only at hSw); go_simp; try with_reducible rfl) ?_ (fun _ _ _ h => h)
  simp only [Act.put, lyA, lyB, lyC]
  refine tkW 13 62 rfl rfl (by kernel_rfl) hHeld (by intro w hSw; (try dsimp only at hSw); go_simp; try with_reducible rfl) ?_ (fun _ _ _ h => h)
  simp only [Act.put, lyA, lyB, lyC]
  refine wpAnyH_ready (rs := [8]) (by kernel_rfl) (by simp) ?_
  refine AllReadyH.cons (o := ⟨some 57, _, _, _, _, _⟩) rfl (fun K hK => ?_) AllReadyH.nil
  go_simp
  go_at_call 38
  refine (greedy_any l2 h2 l3 h3 _ _ W ws xs w6.drew HVW.out ((HWS.out w6 HB6.out).drewN 1) (by show h2 ≤ w6.heap.size; omega) ((HXS.out w6 HB6.out).drewN 1) (by show h3 ≤ w6.heap.size; omega)).mono ?_
  rw [← HG.out]
  rintro e x1 ⟨v5, rfl, o5, bx1⟩
  obtain ⟨A5, c5, rfl, hc5, hm5⟩ := o5.form
  have by1 := of_drew bx1
  have hz7 : w6.heap.size ≤ x1.heap.size := by1.size
  replace e0 := keepB by1 e0; replace e1 := keepB by1 e1; replace e2 := keepB by1 e2; replace e3 := keepB by1 e3; replace e4 := keepB by1 e4
  obtain ⟨bo, oo, Ai, ci, hA5, hbl, hbh, cg, hci, hci2, hrow⟩ := o5.rows.row (r := 0) hG2
  subst hA5
  rw [Nat.add_zero] at cg
  have HROW := Lib.hid hrow
  have hG1 : (0 : Int) < (G.length : Int) := by omega
  have HB7 := Lib.hid (HB6.out.trans (by1.mono HB6.out.size))
  have HTD7 := Lib.hid (HTD6.out.below by1 (by omega))
  have HO7 := Lib.hid (HO6.out.kept (.of_below by1 (Nat.le_refl _)))
  clear o5 hrow
  go_wp2_with fail
  refine hK.out _ _ ?_ (fun hHeld2 => ?_)
  · (first | (try dsimp only); go_keep | (go_split_ands; refine ⟨?_, ?_, ?_, ?_, ?_⟩ <;> first | exact keepB bx2 (by assumption) | exact keepB bx1 (by assumption) | assumption))
  clear hK K hHeld
  have hHeld := hHeld2
  clear hHeld2
  try simp only [Act.put, lyA, lyB, lyC]
  refine tkW 9 58 rfl rfl (by kernel_rfl) hHeld (by intro w hSw; (try dsimp only at hSw); go_simp; try with_reducible rfl) ?_ (fun _ _ _ h => h)
  simp only [Act.put, lyA, lyB, lyC]
  refine wpAnyH_ready (rs := [10]) (by kernel_rfl) (by simp) ?_
  refine AllReadyH.cons (o := ⟨some 59, _, _, _, _, _⟩) rfl (fun K hK => ?_) AllReadyH.nil
  go_simp
  refine hK.out _ _ ?_ (fun hHeld2 => ?_)
  · (first | (try dsimp only); go_keep | (go_split_ands; refine ⟨?_, ?_, ?_, ?_, ?_⟩ <;> first | exact keepB bx2 (by assumption) | exact keepB bx1 (by assumption) | assumption))
  clear hK K hHeld
  have hHeld := hHeld2
  clear hHeld2
  try simp only [Act.put, lyA, lyB, lyC]
  refine wpAnyH_ready (rs := [14]) (by kernel_rfl) (by simp) ?_
  refine AllReadyH.cons (o := ⟨some 63, _, _, _, _, _⟩) rfl (fun K hK => ?_) AllReadyH.nil
  go_simp
  go_at_call 37
  refine (sSlitReel_any lo hi l2 h2 _ _ W L _ _ _ ds ws (gr G 0) 0 L x1 HTD7.out (by omega) (HWS.out x1 HB7.out) (by omega) HROW.out (by omega) (by unfold I64; omega) H64.out).mono ?_
  rw [← HP.out]
  rintro e x2 ⟨v7, rfl, o7, bx2⟩
  obtain ⟨A7, c7, rfl, hc7, hm7⟩ := o7.form
  replace e0 := keepB bx2 e0; replace e1 := keepB bx2 e1; replace e2 := keepB bx2 e2; replace e3 := keepB bx2 e3; replace e4 := keepB bx2 e4
  go_wp2_with fail
  refine hK.out _ _ ?_ (fun hHeld2 => ?_)
  · (first | (try dsimp only); go_keep | (go_split_ands; refine ⟨?_, ?_, ?_, ?_, ?_⟩ <;> first | exact keepB bx2 (by assumption) | exact keepB bx1 (by assumption) | assumption))
  clear hK K hHeld
  have hHeld := hHeld2
  clear hHeld2
  try simp only [Act.put, lyA, lyB, lyC]
  refine tkW 15 12 rfl rfl (by kernel_rfl) hHeld (by intro w hSw; (try dsimp only at hSw); go_simp; try with_reducible rfl) ?_ (fun _ _ _ h => h)
  simp only [Act.put, lyA, lyB, lyC]
  refine wpAnyH_done (by kernel_rfl) ?_ _
  focus
    try clear hHeld
    have HB8 := Lib.hid (HB7.out.trans (bx2.mono HB7.out.size))
    have HO8 := Lib.hid (HO7.out.kept (.of_below bx2 (Nat.le_refl _)))
    have HOB := Lib.hid (show ∀ g, (Value.slice (some ⟨w5.heap.size, 0, none⟩) 0 0).ownBlock = some g → g < x1.heap.size ∨ x2.heap.size ≤ g from fun g hg => .inl (by have := (HO6.out.lt g hg).2; omega))
    have HP7 := Lib.hid o7.ts
    have hz8 : x1.heap.size ≤ x2.heap.size := bx2.size
    clear by1 bx1 bx2 o7 e0 e1 e2 e3 e4 cg
    go_wp2
    go_loopw [11, 13] (fun ev i wr => ∃ k : Nat, k ≤ P.length ∧ i = .int .i64 (k : Int) ∧ Hid (OwnT wr w5.heap.size 40 7 ev (evT (plE lb (P.take k)))) ∧ Hid (Below w.heap.size w wr) ∧ Hid (TS wr x1.heap.size x2.heap.size 4 (.slice A7 P.length c7) P) ∧ x2.heap.size ≤ wr.heap.size ∧ Hid (∀ g, ev.ownBlock = some g → g < x1.heap.size ∨ x2.heap.size ≤ g)) (fun _ i _ => P.length - (intOf i).toNat)
    case atStart => exact ⟨0, Nat.zero_le _, rfl, HO8.out, HB8.out, HP7.out, Nat.le_refl _, HOB.out⟩
    case round =>
      obtain ⟨k, hk, rfl, HO, HB, HQ, hzo, HOW⟩ := hrel
      obtain ⟨wo, rfl⟩ : ∃ wo : World, wo = wr := ⟨_, rfl⟩
      clear HO8 HB8 HP7 HOB
      obtain ⟨Ao, co, rfl, hco, hco2⟩ := HO.out.form
      have hle : (evT (plE lb (P.take k))).length = k := by rw [evT_len, plE_len, List.length_take]; omega
      rw [hle] at HO HOW hco ⊢
      have HLE := Lib.hid hle
      clear hle
      by_cases hlt : k < P.length
      rotate_left
      · have hnk : ¬ (k : Int) < (P.length : Int) := by omega
        have HE := Lib.hid (show OwnT wo w.heap.size 40 7 (.slice Ao k co) (evT R) by
          have h9 := HO.out.base (base' := w.heap.size) (by omega)
          rw [List.take_of_length_le (by omega)] at h9
          rw [HRE.out]; exact h9)
        go_wp2
        go_ret2
        exact ⟨_, rfl, HE.out, HB.out⟩
      have k0 : (0 : Int) ≤ (k : Int) := by omega
      have k1 : (k : Int) < (P.length : Int) := by omega
      obtain ⟨b7, o7, hA7, hb71, hb72, p0, p1, p2, p3⟩ := HQ.out.c4 hlt
      subst hA7
      have HTK := Lib.hid (evT_plE lb hlt)
      have h64 : ∀ j, j < 4 → I64 (gi (gr P k) j) := fun j hj => by
        obtain ⟨_, _, _, _, _, _, h7⟩ := HQ.out
        have h8 := h7 _ (gr_mem hlt)
        rw [gi_eq (by omega)]
        exact h8.2 _ (List.getElem_mem _)
      have HI := Lib.hid (And.intro (h64 0 (by omega)) (And.intro (h64 1 (by omega)) (And.intro (h64 2 (by omega)) (h64 3 (by omega)))))
      obtain ⟨y0, hy0⟩ : ∃ y, y = gi (gr P k) 0 := ⟨_, rfl⟩
      obtain ⟨y1, hy1⟩ : ∃ y, y = gi (gr P k) 1 := ⟨_, rfl⟩
      obtain ⟨y2, hy2⟩ : ∃ y, y = gi (gr P k) 2 := ⟨_, rfl⟩
      obtain ⟨y3, hy3⟩ : ∃ y, y = gi (gr P k) 3 := ⟨_, rfl⟩
      rw [← hy0, ← hy1, ← hy2, ← hy3] at HI HTK
      rw [← hy0] at p0
      rw [← hy1] at p1
      rw [← hy2] at p2
      rw [← hy3] at p3
      have HY := Lib.hid (show ([2, lb, y0, y1, y2, y3, 0] : List Int).length = 7 ∧ ∀ n ∈ [2, lb, y0, y1, y2, y3, 0], I64 n from ⟨rfl, fun x hx => by
        have h1 := HI.out
        simp only [List.mem_cons, List.not_mem_nil, or_false] at hx
        rcases hx with rfl | rfl | rfl | rfl | rfl | rfl | rfl
        · unfold I64; omega
        · exact hlb
        · exact h1.1
        · exact h1.2.1
        · exact h1.2.2.1
        · exact h1.2.2.2
        · unfold I64; omega⟩)
      have HL1 := Lib.hid (show ((evT (plE lb (P.take k))).length + 1) * 56 ≤ 140737488355328 by rw [HLE.out]; omega)
      have HL2 := Lib.hid (show (evT (plE lb (P.take k))).length ≤ 1099511627776 by rw [HLE.out]; omega)
      have hw5 : w5.heap.size ≤ wo.heap.size := by omega
      clear hy0 hy1 hy2 hy3 h64
      go_wp2_with (at_builtin; refine wpList_appendT' SlEvent1 wo rfl (.tmp 70) (.tmp 77) rfl [2, lb, y0, y1, y2, y3, 0] _ rfl w5.heap.size _ _ rfl rfl HO.out HY.out HL1.out HL2.out hw5 ?_; intro v6 w8 ho6 hg6 hob)
      have HO6 := Lib.hid (show OwnT w8 w5.heap.size 40 7 v6 (evT (plE lb (P.take (k + 1)))) by rw [HTK.out]; exact ho6)
      have HB9 := Lib.hid (HB.out.trans (hg6.below.mono (by omega)))
      have HQ9 := Lib.hid (HQ.out.kept (w' := w8) fun q hq hq2 => hg6.other q (by omega) fun e => by have := HOW.out q e.symm; omega)
      have HOB9 := Lib.hid (show ∀ g, v6.ownBlock = some g → g < x1.heap.size ∨ x2.heap.size ≤ g from fun g hg => by
        rcases hob with h9 | h9
        · exact HOW.out g (h9.symm.trans hg)
        · rw [h9] at hg; injection hg with h8; omega)
      have hz9 : x2.heap.size ≤ w8.heap.size := by have := hg6.size; omega
      clear ho6 hg6 hob
      go_roundw
      case rel => exact ⟨k + 1, hlt, by go_num, HO6.out, HB9.out, HQ9.out, hz9, HOB9.out⟩
      case measure => simp [intOf]; omega
theorem PlanCutsS_fix (lo hi l2 h2 l3 h3 : Nat) (v u2 u3 : Value) (m : Mil) (lb : Int) (ws xs : List Int) (R : List Evt) (ok : Bool) (w : World) (h : ES w lo hi v m.es) (hhi : hi ≤ w.heap.size) (hin : I64 m.a ∧ I64 m.b ∧ I64 m.z) (hlb : I64 lb) (hw : Ints w l2 h2 u2 ws) (hh2 : h2 ≤ w.heap.size) (hx : Ints w l3 h3 u3 xs) (hh3 : h3 ≤ w.heap.size) (hR : R = plL m lb ws xs) (hok : ok = plB m lb ws xs) :
    Calls Tryz.prog 9 #[.agg #[v, .int .i64 m.a, .int .i64 m.b, .int .i64 m.z], .int .i64 lb, u2, u3] w fun e w' => ∃ A c, e = .returned (.tuple #[.slice A R.length c, .bool ok]) ∧ OwnT w' w.heap.size 40 7 (.slice A R.length c) (evT R) ∧ Below w.heap.size w w' := by
  refine (PlanCutsS_any lo hi l2 h2 l3 h3 v u2 u3 m lb ws xs w h hhi hin hlb hw hh2 hx hh3).mono ?_
  rw [← hR, ← hok]
  rintro e w' ⟨u, rfl, he, hb⟩
  obtain ⟨A, c, hA, _⟩ := he.form
  rw [evT_len] at hA
  subst hA
  exact ⟨A, c, rfl, he, hb⟩
theorem PlanCutsI_fix (lo hi l2 h2 l3 h3 : Nat) (v u2 u3 : Value) (m : Mil) (lb : Int) (ws xs : List Int) (R : List Evt) (ok : Bool) (w : World) (h : ES w lo hi v m.es) (hhi : hi ≤ w.heap.size) (hin : I64 m.a ∧ I64 m.b ∧ I64 m.z) (hlb : I64 lb) (hw : Ints w l2 h2 u2 ws) (hh2 : h2 ≤ w.heap.size) (hx : Ints w l3 h3 u3 xs) (hh3 : h3 ≤ w.heap.size) (hR : R = plL m lb ws xs) (hok : ok = plB m lb ws xs) :
    Calls Tryz.prog 8 #[.agg #[v, .int .i64 m.a, .int .i64 m.b, .int .i64 m.z], .int .i64 lb, u2, u3] w fun e w' => ∃ A c, e = .returned (.tuple #[.slice A R.length c, .bool ok]) ∧ OwnT w' w.heap.size 40 7 (.slice A R.length c) (evT R) ∧ Below w.heap.size w w' := by
  refine (PlanCutsI_any lo hi l2 h2 l3 h3 v u2 u3 m lb ws xs w h hhi hin hlb hw hh2 hx hh3).mono ?_
  rw [← hR, ← hok]
  rintro e w' ⟨u, rfl, he, hb⟩
  obtain ⟨A, c, hA, _⟩ := he.form
  rw [evT_len] at hA
  subst hA
  exact ⟨A, c, rfl, he, hb⟩
end Go.Proofs.YtkgepklapglmdaaGreatDoor
