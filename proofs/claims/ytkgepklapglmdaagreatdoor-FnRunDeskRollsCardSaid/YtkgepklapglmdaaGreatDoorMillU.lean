/-
  Lemmas and contracts of single functions of this program, used by the proofs of its laws: what each call returns and what becomes of memory. Conditions: the hypotheses of each theorem.
-/
import Derived.Test.YtkgepklapglmdaaGreatDoorMillT
namespace Go.Proofs.YtkgepklapglmdaaGreatDoor
open Go.RowKit
attribute [local go_sem ↓] Go.wp_at_zero Go.wp_at_succ


def ve (evs : List Evt) (k : Nat) : Evt := evs.getD k ⟨0, 0, 0, 0, 0, 0, 0⟩
theorem ve_eq {evs : List Evt} {k : Nat} (h : k < evs.length) : ve evs k = evs[k] := by simp [ve, h]
theorem ve_row {evs : List Evt} {k : Nat} (h : k < evs.length) : gr (evT evs) k = (ve evs k).row := by
  rw [gr_eq (by rw [evT_len]; exact h), ve_eq h]; simp [evT]
theorem take_ve {evs : List Evt} {k : Nat} (h : k < evs.length) : evs.take (k + 1) = evs.take k ++ [ve evs k] := by rw [ve_eq h]; exact List.take_succ_eq_append_getElem h
theorem ve_v64 {w : World} {lo hi : Nat} {v : Value} {evs : List Evt} (h : TS w lo hi 7 v (evT evs)) {k : Nat} (hk : k < evs.length) : V64 (ve evs k) := by
  have h1 := (h.all _ (gr_mem (i := k) (by rw [evT_len]; exact hk))).2
  rw [ve_row hk] at h1
  unfold Evt.row at h1
  refine ⟨h1 _ ?_, h1 _ ?_, h1 _ ?_, h1 _ ?_, h1 _ ?_, h1 _ ?_, h1 _ ?_⟩ <;> simp
theorem runB_append : ∀ (m : Mil) (l1 l2 : List Evt), runB m (l1 ++ l2) = (runB m l1).bind fun m' => runB m' l2
  | _, [], _ => rfl
  | m, e :: t, l2 => by
    rw [List.cons_append, runB, runB]
    cases apE m e with
    | none => rfl
    | some m1 => exact runB_append m1 t l2
theorem runB_stop {evs : List Evt} {k : Nat} {m : Mil} (hk : k < evs.length) (h : runB Mil.nil (evs.take k) = some m) (h2 : apE m (ve evs k) = none) : runB Mil.nil evs = none := by
  have e : evs = evs.take k ++ (ve evs k :: evs.drop (k + 1)) := by
    rw [ve_eq hk, List.getElem_cons_drop, List.take_append_drop]
  rw [e, runB_append, h]
  show runB m (ve evs k :: _) = none
  rw [runB, h2]
theorem runB_one {evs : List Evt} {k : Nat} {m m2 : Mil} (hk : k < evs.length) (h : runB Mil.nil (evs.take k) = some m) (h2 : apE m (ve evs k) = some m2) : runB Mil.nil (evs.take (k + 1)) = some m2 := by
  rw [take_ve hk]; exact runB_next h h2
/-- what a book makes of an empty mill, if it is not too long -/
def rbV (evs : List Evt) : Option Mil := if evs.length ≤ 60 then runB Mil.nil evs else none
/-- what a call returns that makes something of a mill, opened -/
def GenR (r : Option Mil) (rs : Bool) (es : List Ent) (a b z : Int) : Prop := (rs = true ∧ r = some ⟨es, a, b, z⟩) ∨ (rs = false ∧ r = none)
theorem GenR.mk (r : Option Mil) : GenR r r.isSome (r.getD Mil.nil).es (r.getD Mil.nil).a (r.getD Mil.nil).b (r.getD Mil.nil).z := by
  cases r with
  | none => exact .inr ⟨rfl, rfl⟩
  | some m => exact .inl ⟨rfl, rfl⟩
theorem ApPost.gen {w w' : World} {r : Option Mil} {e : Ending} (h : ApPost w r e w') : ∃ (A : Option Addr) (n c : Nat) (a b z : Int) (rs : Bool), e = .returned (.tuple #[.agg #[.slice A n c, .int .i64 a, .int .i64 b, .int .i64 z], .bool rs]) ∧ Below w.heap.size w w' ∧ Hid (∃ es : List Ent, n = es.length ∧ ES w' w.heap.size w'.heap.size (.slice A n c) es ∧ GenR r rs es a b z) := by
  obtain ⟨v, rfl, he, hb⟩ := h
  obtain ⟨A, c, rfl, _⟩ := he.form
  exact ⟨A, _, c, _, _, _, _, rfl, hb, ⟨_, rfl, he, .mk r⟩⟩
theorem OpPost.gen {w w' : World} {r : Option Mil} {e : Ending} (h : OpPost w r e w') : ∃ (A : Option Addr) (n c : Nat) (a b z : Int) (rs : Bool), e = .returned (.tuple #[.agg #[.slice A n c, .int .i64 a, .int .i64 b, .int .i64 z], .bool rs]) ∧ Below w.heap.size w w' ∧ Hid (∃ es : List Ent, n = es.length ∧ OwnE w' w.heap.size w'.heap.size 58 92 38 (.slice A n c) es ∧ GenR r rs es a b z) := by
  obtain ⟨v, rfl, he, hb⟩ := h
  obtain ⟨A, c, rfl, _⟩ := he.form
  exact ⟨A, _, c, _, _, _, _, rfl, hb, ⟨_, rfl, he, .mk r⟩⟩
set_option maxRecDepth 100000 in
set_option maxHeartbeats 8000000 in
theorem runBook_any (lo hi : Nat) (v : Value) (evs : List Evt) (w : World) (h : TS w lo hi 7 v (evT evs)) (hhi : hi ≤ w.heap.size) (hl : evs.length ≤ 1000) :
    Calls Tryz.prog 49 #[v] w fun e w' => ApPost w (runB Mil.nil evs) e w' := by
  obtain ⟨A, c, rfl, hc, hm⟩ := h.form
  rw [evT_len] at hc ⊢
  have hts : ∀ w1, Below w.heap.size w w1 → TS w1 lo hi 7 (.slice A evs.length c) (evT evs) := fun w1 hb => by have := h.below hb hhi; rw [evT_len] at this; exact this
  clear h
  have Hs := Lib.hid (show ∃ w1, w1 = (w.alloc (.cells #[.slice none 0 0, .int .i64 0, .int .i64 0, .int .i64 0] 25)).alloc (.cells #[.slice none 0 0, .int .i64 0, .int .i64 0, .int .i64 0] 25) ∧ Below w.heap.size w w1 ∧ MB w1 w.heap.size (.slice none 0 0) 0 0 0 ∧ MB w1 (w.heap.size + 1) (.slice none 0 0) 0 0 0 ∧ w.heap.size + 1 + 1 ≤ w1.heap.size from by
    refine ⟨_, rfl, ((Below.refl _ _).alloc (Nat.le_refl _) _).alloc (by simp) _, ?_, ?_, by simp⟩
    · refine Eq.trans ?_ (heap_alloc_new w (.cells #[.slice none 0 0, .int .i64 0, .int .i64 0, .int .i64 0] 25))
      exact ((Below.refl _ _).alloc (Nat.le_refl _) _).block _ (by simp)
    · have := heap_alloc_new (w.alloc (.cells #[.slice none 0 0, .int .i64 0, .int .i64 0, .int .i64 0] 25)) (.cells #[.slice none 0 0, .int .i64 0, .int .i64 0, .int .i64 0] 25)
      unfold MB
      simpa using this)
  go_enter Tryz.func49, Tryz.ntmps49
  go_wp2
  obtain ⟨w1, hw1, hb0, hma, hmb, hz1⟩ := Hs.out
  rw [← hw1]
  clear hw1 Hs
  go_loopw [5] (fun i wr => ∃ (k : Nat) (m : Mil) (A1 : Option Addr) (c1 : Nat), k ≤ evs.length ∧ i = .int .i64 k ∧ Below w.heap.size w wr ∧ MB wr (w.heap.size + 1) (.slice A1 m.es.length c1) m.a m.b m.z ∧ MB wr w.heap.size (.slice none 0 0) 0 0 0 ∧ ES wr (w.heap.size + 1 + 1) wr.heap.size (.slice A1 m.es.length c1) m.es ∧ w.heap.size + 1 + 1 ≤ wr.heap.size ∧ Hid (runB Mil.nil (evs.take k) = some m ∧ m.ok = true)) (fun i _ => evs.length - (intOf i).toNat)
  case atStart => exact ⟨0, Mil.nil, none, 0, by omega, rfl, hb0, hmb, hma, ES.nil _ _ _, hz1, ⟨rfl, nil_ok⟩⟩
  case round =>
    clear hma hmb hb0
    obtain ⟨k, ⟨es, a, b, z⟩, A1, c1, hk, rfl, bw, hmb, hma, hes, hzr, HK⟩ := hrel
    dsimp only at hmb hes
    obtain ⟨⟨c00, c01, c02, c03⟩, ⟨f00, f01, f02, f03⟩⟩ := hma.cells
    obtain ⟨⟨c10, c11, c12, c13⟩, ⟨f10, f11, f12, f13⟩⟩ := hmb.cells
    have Hmb := Lib.hid hmb
    have Hma := Lib.hid hma
    have Hes := Lib.hid hes
    clear hmb hma hes
    by_cases hlt : k < evs.length
    · obtain ⟨b9, o, rfl, _, hb9h, e0, e1, e2, e3, e4, e5, e6⟩ := (hts wr bw).c7 (by rw [evT_len]; exact hlt)
      have h64 := ve_v64 (hts wr bw) hlt
      rw [ve_row hlt] at e0 e1 e2 e3 e4 e5 e6
      have hk0 : (0 : Int) ≤ (k : Int) := by omega
      have hk1 : (k : Int) < (evs.length : Int) := by omega
      have Hb := Lib.hid bw
      have HST := Lib.hid (fun h2 => runB_stop hlt HK.out.1 h2)
      have HON := Lib.hid (fun m2 h2 => runB_one (m2 := m2) hlt HK.out.1 h2)
      have HOK := Lib.hid HK.out.2
      obtain ⟨E, hE⟩ : ∃ E, E = ve evs k := ⟨_, rfl⟩
      rw [← hE] at e0 e1 e2 e3 e4 e5 e6 h64 HST HON
      obtain ⟨ek, lb, l, r, f, t, g⟩ := E
      replace e0 : wr.cell? ⟨b9, o + k * 7, none⟩ = some (.int .i64 ek) := e0
      replace e1 : wr.cell? ⟨b9, o + k * 7 + 1, none⟩ = some (.int .i64 lb) := e1
      replace e2 : wr.cell? ⟨b9, o + k * 7 + 2, none⟩ = some (.int .i64 l) := e2
      replace e3 : wr.cell? ⟨b9, o + k * 7 + 3, none⟩ = some (.int .i64 r) := e3
      replace e4 : wr.cell? ⟨b9, o + k * 7 + 4, none⟩ = some (.int .i64 f) := e4
      replace e5 : wr.cell? ⟨b9, o + k * 7 + 5, none⟩ = some (.int .i64 t) := e5
      replace e6 : wr.cell? ⟨b9, o + k * 7 + 6, none⟩ = some (.int .i64 g) := e6
      have H64 := Lib.hid h64
      clear hE h64 bw HK
      go_wp2
      refine wp_region_held_drew (S := fun w' => w'.cell? ⟨w.heap.size + 1, 0, none⟩ = some (.slice A1 es.length c1) ∧ w'.cell? ⟨w.heap.size + 1, 1, none⟩ = some (.int .i64 a) ∧ w'.cell? ⟨w.heap.size + 1, 2, none⟩ = some (.int .i64 b) ∧ w'.cell? ⟨w.heap.size + 1, 3, none⟩ = some (.int .i64 z) ∧ w'.cell? ⟨b9, o + k * 7, none⟩ = some (.int .i64 ek) ∧ w'.cell? ⟨b9, o + k * 7 + 1, none⟩ = some (.int .i64 lb) ∧ w'.cell? ⟨b9, o + k * 7 + 2, none⟩ = some (.int .i64 l) ∧ w'.cell? ⟨b9, o + k * 7 + 3, none⟩ = some (.int .i64 r) ∧ w'.cell? ⟨b9, o + k * 7 + 4, none⟩ = some (.int .i64 f) ∧ w'.cell? ⟨b9, o + k * 7 + 5, none⟩ = some (.int .i64 t) ∧ w'.cell? ⟨b9, o + k * 7 + 6, none⟩ = some (.int .i64 g)) (by kernel_rfl) ?_ (fun hHeld => ?_)
      · (first | (try dsimp only); go_keep | (go_split_ands; refine ⟨?_, ?_, ?_, ?_, ?_, ?_, ?_, ?_, ?_, ?_, ?_⟩ <;> first | assumption))
      refine wpAnyH_take (i := 0) (oi := ⟨some 16, _, _, _, _, _⟩) (v := _) rfl (by kernel_rfl) (by kernel_rfl) (by kernel_rfl) (fun _ _ _ h => h) (Or.inl ⟨by kernel_rfl, by intro w hSw; (try dsimp only at hSw); go_simp; try with_reducible rfl⟩) (by assumption) ?_
      simp only [Act.put, List.setIfInBounds_toArray, List.set_cons_zero, List.set_cons_succ]
      refine wpAnyH_take (i := 1) (oi := ⟨some 17, _, _, _, _, _⟩) (v := _) rfl (by kernel_rfl) (by kernel_rfl) (by kernel_rfl) (fun _ _ _ h => h) (Or.inl ⟨by kernel_rfl, by intro w hSw; (try dsimp only at hSw); go_simp; try with_reducible rfl⟩) (by assumption) ?_
      simp only [Act.put, List.setIfInBounds_toArray, List.set_cons_zero, List.set_cons_succ]
      refine wpAnyH_take (i := 2) (oi := ⟨some 18, _, _, _, _, _⟩) (v := _) rfl (by kernel_rfl) (by kernel_rfl) (by kernel_rfl) (fun _ _ _ h => h) (Or.inl ⟨by kernel_rfl, by intro w hSw; (try dsimp only at hSw); go_simp; try with_reducible rfl⟩) (by assumption) ?_
      simp only [Act.put, List.setIfInBounds_toArray, List.set_cons_zero, List.set_cons_succ]
      refine wpAnyH_take (i := 3) (oi := ⟨some 19, _, _, _, _, _⟩) (v := _) rfl (by kernel_rfl) (by kernel_rfl) (by kernel_rfl) (fun _ _ _ h => h) (Or.inl ⟨by kernel_rfl, by intro w hSw; (try dsimp only at hSw); go_simp; try with_reducible rfl⟩) (by assumption) ?_
      simp only [Act.put, List.setIfInBounds_toArray, List.set_cons_zero, List.set_cons_succ]
      refine wpAnyH_take (i := 4) (oi := ⟨some 20, _, _, _, _, _⟩) (v := _) rfl (by kernel_rfl) (by kernel_rfl) (by kernel_rfl) (fun _ _ _ h => h) (Or.inl ⟨by kernel_rfl, by intro w hSw; (try dsimp only at hSw); go_simp; try with_reducible rfl⟩) (by assumption) ?_
      simp only [Act.put, List.setIfInBounds_toArray, List.set_cons_zero, List.set_cons_succ]
      refine wpAnyH_ready (rs := [5, 9]) (by kernel_rfl) (by simp) (AllReadyH.cons (o := ⟨some 21, _, _, _, _, _⟩) rfl (fun K hK => ?_) (AllReadyH.cons (o := ⟨some 6, _, _, _, _, _⟩) rfl (fun K hK => ?_) (AllReadyH.nil)))
      focus
        go_simp
        go_at_call 89
        refine (applyEvent_any (w.heap.size + 1 + 1) wr.heap.size _ ⟨es, a, b, z⟩ ⟨ek, lb, l, r, f, t, g⟩ _ (Hes.out.drewN 1) (by simp) HOK.out H64.out).mono ?_
        intro e x6 hpost
        obtain ⟨A6, n6, c6, ra, rb, rz, rs, rfl, b6, HG⟩ := hpost.gen
        clear hpost
        have b7 := of_drew b6
        have hz7 := b7.size
        replace c10 := keepB b7 c10; replace c11 := keepB b7 c11; replace c12 := keepB b7 c12; replace c13 := keepB b7 c13; replace e0 := keepB b7 e0; replace e1 := keepB b7 e1; replace e2 := keepB b7 e2; replace e3 := keepB b7 e3; replace e4 := keepB b7 e4; replace e5 := keepB b7 e5; replace e6 := keepB b7 e6
        go_wp2_with fail
        refine hK.out _ _ ?_ (fun hHeld2 => ?_)
        · (first | (try dsimp only); go_keep | (go_split_ands; refine ⟨?_, ?_, ?_, ?_, ?_, ?_, ?_, ?_, ?_, ?_, ?_⟩ <;> first | assumption))
        clear hK K hHeld
        have hHeld := hHeld2
        clear hHeld2
        try simp only [Act.put, List.setIfInBounds_toArray, List.set_cons_zero, List.set_cons_succ]
        refine wpAnyH_take (i := 6) (oi := ⟨some 15, _, _, _, _, _⟩) (v := _) rfl (by kernel_rfl) (by kernel_rfl) (by kernel_rfl) (fun _ _ _ h => h) (Or.inl ⟨by kernel_rfl, by intro w hSw; (try dsimp only at hSw); go_simp; try with_reducible rfl⟩) (by assumption) ?_
        simp only [Act.put, List.setIfInBounds_toArray, List.set_cons_zero, List.set_cons_succ]
        refine wpAnyH_take (i := 7) (oi := ⟨some 22, _, _, _, _, _⟩) (v := _) rfl (by kernel_rfl) (by kernel_rfl) (by kernel_rfl) (fun _ _ _ h => h) (Or.inl ⟨by kernel_rfl, by intro w hSw; (try dsimp only at hSw); go_simp; try with_reducible rfl⟩) (by assumption) ?_
        simp only [Act.put, List.setIfInBounds_toArray, List.set_cons_zero, List.set_cons_succ]
        refine wpAnyH_take (i := 8) (oi := ⟨some 23, _, _, _, _, _⟩) (v := _) rfl (by kernel_rfl) (by kernel_rfl) (by kernel_rfl) (fun _ _ _ h => h) (Or.inl ⟨by kernel_rfl, by intro w hSw; (try dsimp only at hSw); go_simp; try with_reducible rfl⟩) (by assumption) ?_
        simp only [Act.put, List.setIfInBounds_toArray, List.set_cons_zero, List.set_cons_succ]
        refine wpAnyH_ready (rs := [9]) (by kernel_rfl) (by simp) ?_
        refine AllReadyH.cons (o := ⟨some 6, _, _, _, _, _⟩) rfl (fun K hK => ?_) AllReadyH.nil
        go_simp
        refine hK.out _ _ ?_ (fun hHeld2 => ?_)
        · (first | (try dsimp only); go_keep | (go_split_ands; refine ⟨?_, ?_, ?_, ?_, ?_, ?_, ?_, ?_, ?_, ?_, ?_⟩ <;> first | assumption))
        clear hK K hHeld
        have hHeld := hHeld2
        clear hHeld2
        try simp only [Act.put, List.setIfInBounds_toArray, List.set_cons_zero, List.set_cons_succ]
        refine wpAnyH_ready (rs := [10]) (by kernel_rfl) (by simp) ?_
        refine AllReadyH.cons (o := ⟨none, _, _, _, _, _⟩) rfl (fun K hK => ?_) AllReadyH.nil
        go_simp
        refine hK.out _ _ ?_ (fun hHeld2 => ?_)
        · (first | (try dsimp only); go_keep | (go_split_ands; refine ⟨?_, ?_, ?_, ?_, ?_, ?_, ?_, ?_, ?_, ?_, ?_⟩ <;> first | assumption))
        clear hK K hHeld
        have hHeld := hHeld2
        clear hHeld2
        try simp only [Act.put, List.setIfInBounds_toArray, List.set_cons_zero, List.set_cons_succ]
        refine wpAnyH_take (i := 11) (oi := ⟨some 7, _, _, _, _, _⟩) (v := _) rfl (by kernel_rfl) (by kernel_rfl) (by kernel_rfl) (fun _ _ _ h => h) (Or.inl ⟨by kernel_rfl, by intro w hSw; (try dsimp only at hSw); go_simp; try with_reducible rfl⟩) (by assumption) ?_
        simp only [Act.put, List.setIfInBounds_toArray, List.set_cons_zero, List.set_cons_succ]
        refine wpAnyH_done (by kernel_rfl) ?_ _
      rotate_left 1
      focus
        go_simp
        refine hK.out _ _ ?_ (fun hHeld2 => ?_)
        · (first | (try dsimp only); go_keep | (go_split_ands; refine ⟨?_, ?_, ?_, ?_, ?_, ?_, ?_, ?_, ?_, ?_, ?_⟩ <;> first | assumption))
        clear hK K hHeld
        have hHeld := hHeld2
        clear hHeld2
        try simp only [Act.put, List.setIfInBounds_toArray, List.set_cons_zero, List.set_cons_succ]
        refine wpAnyH_ready (rs := [5]) (by kernel_rfl) (by simp) ?_
        refine AllReadyH.cons (o := ⟨some 21, _, _, _, _, _⟩) rfl (fun K hK => ?_) AllReadyH.nil
        go_simp
        obtain ⟨wq, hwq⟩ : ∃ wq, wq = (wr.alloc (.cells #[.slice none 0 0, .int .i64 0, .int .i64 0, .int .i64 0] 25)).drew := ⟨_, rfl⟩
        have bq : Below wr.heap.size wr wq := by rw [hwq]; exact ((Below.refl _ _).alloc (Nat.le_refl _) _).trans ((Qt.one _ 1).below _)
        have hzq : wr.heap.size < wq.heap.size := by rw [hwq]; simp
        have hqb : MB wq wr.heap.size (.slice none 0 0) 0 0 0 := by rw [hwq]; exact heap_alloc_new wr _
        obtain ⟨⟨d0, d1, d2, d3⟩, ⟨fd0, fd1, fd2, fd3⟩⟩ := hqb.cells
        have Hqb := Lib.hid hqb
        clear hqb
        have hne1 : ¬ wr.heap.size = w.heap.size + 1 := by omega
        have hne2 : ¬ wr.heap.size = b9 := by omega
        rw [← hwq]
        clear hwq
        replace c10 := keepB bq c10; replace c11 := keepB bq c11; replace c12 := keepB bq c12; replace c13 := keepB bq c13; replace e0 := keepB bq e0; replace e1 := keepB bq e1; replace e2 := keepB bq e2; replace e3 := keepB bq e3; replace e4 := keepB bq e4; replace e5 := keepB bq e5; replace e6 := keepB bq e6
        refine (applyEvent_any (w.heap.size + 1 + 1) wr.heap.size _ ⟨es, a, b, z⟩ ⟨ek, lb, l, r, f, t, g⟩ wq (Hes.out.below bq (Nat.le_refl _)) (by omega) HOK.out H64.out).mono ?_
        intro e x6 hpost
        obtain ⟨A6, n6, c6, ra, rb, rz, rs, rfl, b6, HG⟩ := hpost.gen
        clear hpost
        have b7 := bq.trans (b6.mono (by omega))
        have hz7 := b7.size
        replace c10 := keepB b6 c10; replace c11 := keepB b6 c11; replace c12 := keepB b6 c12; replace c13 := keepB b6 c13; replace e0 := keepB b6 e0; replace e1 := keepB b6 e1; replace e2 := keepB b6 e2; replace e3 := keepB b6 e3; replace e4 := keepB b6 e4; replace e5 := keepB b6 e5; replace e6 := keepB b6 e6; replace d0 := keepB b6 d0; replace d1 := keepB b6 d1; replace d2 := keepB b6 d2; replace d3 := keepB b6 d3
        replace fd0 := keepF b6 (by first | (simp; done) | (simp; omega)) fd0; replace fd1 := keepF b6 (by first | (simp; done) | (simp; omega)) fd1; replace fd2 := keepF b6 (by first | (simp; done) | (simp; omega)) fd2; replace fd3 := keepF b6 (by first | (simp; done) | (simp; omega)) fd3
        go_wp2_with fail
        refine hK.out _ _ ?_ (fun hHeld2 => ?_)
        · (first | (try dsimp only); go_keep | (go_split_ands; refine ⟨?_, ?_, ?_, ?_, ?_, ?_, ?_, ?_, ?_, ?_, ?_⟩ <;> first | assumption))
        clear hK K hHeld
        have hHeld := hHeld2
        clear hHeld2
        try simp only [Act.put, List.setIfInBounds_toArray, List.set_cons_zero, List.set_cons_succ]
        refine wpAnyH_take (i := 6) (oi := ⟨some 15, _, _, _, _, _⟩) (v := _) rfl (by kernel_rfl) (by kernel_rfl) (by kernel_rfl) (fun _ _ _ h => h) (Or.inl ⟨by kernel_rfl, by intro w hSw; (try dsimp only at hSw); go_simp; try with_reducible rfl⟩) (by assumption) ?_
        simp only [Act.put, List.setIfInBounds_toArray, List.set_cons_zero, List.set_cons_succ]
        refine wpAnyH_take (i := 7) (oi := ⟨some 22, _, _, _, _, _⟩) (v := _) rfl (by kernel_rfl) (by kernel_rfl) (by kernel_rfl) (fun _ _ _ h => h) (Or.inl ⟨by kernel_rfl, by intro w hSw; (try dsimp only at hSw); go_simp; try with_reducible rfl⟩) (by assumption) ?_
        simp only [Act.put, List.setIfInBounds_toArray, List.set_cons_zero, List.set_cons_succ]
        refine wpAnyH_take (i := 8) (oi := ⟨some 23, _, _, _, _, _⟩) (v := _) rfl (by kernel_rfl) (by kernel_rfl) (by kernel_rfl) (fun _ _ _ h => h) (Or.inl ⟨by kernel_rfl, by intro w hSw; (try dsimp only at hSw); go_simp; try with_reducible rfl⟩) (by assumption) ?_
        simp only [Act.put, List.setIfInBounds_toArray, List.set_cons_zero, List.set_cons_succ]
        refine wpAnyH_ready (rs := [10]) (by kernel_rfl) (by simp) ?_
        refine AllReadyH.cons (o := ⟨none, _, _, _, _, _⟩) rfl (fun K hK => ?_) AllReadyH.nil
        go_simp
        refine hK.out _ _ ?_ (fun hHeld2 => ?_)
        · (first | (try dsimp only); go_keep | (go_split_ands; refine ⟨?_, ?_, ?_, ?_, ?_, ?_, ?_, ?_, ?_, ?_, ?_⟩ <;> first | assumption))
        clear hK K hHeld
        have hHeld := hHeld2
        clear hHeld2
        try simp only [Act.put, List.setIfInBounds_toArray, List.set_cons_zero, List.set_cons_succ]
        refine wpAnyH_take (i := 11) (oi := ⟨some 7, _, _, _, _, _⟩) (v := _) rfl (by kernel_rfl) (by kernel_rfl) (by kernel_rfl) (fun _ _ _ h => h) (Or.inl ⟨by kernel_rfl, by intro w hSw; (try dsimp only at hSw); go_simp; try with_reducible rfl⟩) (by assumption) ?_
        simp only [Act.put, List.setIfInBounds_toArray, List.set_cons_zero, List.set_cons_succ]
        refine wpAnyH_done (by kernel_rfl) ?_ _
      rotate_left 1
      focus
        obtain ⟨wq, hwq⟩ : ∃ wq, wq = x6.alloc (.cells #[.slice A6 n6 c6, .int .i64 ra, .int .i64 rb, .int .i64 rz] 25) := ⟨_, rfl⟩
        have bq : Below x6.heap.size x6 wq := by rw [hwq]; exact (Below.refl _ _).alloc (Nat.le_refl _) _
        have HX : Hid (MB wq x6.heap.size (.slice A6 n6 c6) ra rb rz) := by rw [hwq]; exact heap_alloc_new x6 _
        have HB9 := Lib.hid (b7.trans (bq.mono hz7))
        have hzQ : wr.heap.size < wq.heap.size := by have := HX.out.lt; omega
        have HE : Hid (∃ es' : List Ent, n6 = es'.length ∧ ES wq (w.heap.size + 1 + 1) wq.heap.size (.slice A6 n6 c6) es' ∧ GenR (apE ⟨es, a, b, z⟩ ⟨ek, lb, l, r, f, t, g⟩) rs es' ra rb rz) := by
          obtain ⟨es', q1, q2, q3⟩ := HG.out
          exact ⟨es', q1, (q2.below bq (Nat.le_refl _)).wide (by show _ ≤ wr.heap.size; omega) bq.size, q3⟩
        obtain ⟨X, hX⟩ : ∃ X, X = x6.heap.size := ⟨_, rfl⟩
        rw [← hX] at HX
        rw [← hX]
        have hXw : wr.heap.size ≤ X := by omega
        rw [← hwq]
        clear hwq bq hX b6 b7 hz7 HG
      rotate_left 1
      focus
        obtain ⟨w8, hw8⟩ : ∃ w8, w8 = (((x6.setCell ⟨wr.heap.size, 0, none⟩ (.slice A6 n6 c6)).setCell ⟨wr.heap.size, 1, none⟩ (.int .i64 ra)).setCell ⟨wr.heap.size, 2, none⟩ (.int .i64 rb)).setCell ⟨wr.heap.size, 3, none⟩ (.int .i64 rz) := ⟨_, rfl⟩
        have hz8 : w8.heap.size = x6.heap.size := by rw [hw8]; simp [World.setCell]
        have HX : Hid (MB w8 wr.heap.size (.slice A6 n6 c6) ra rb rz) := by rw [hw8]; exact ((((Hqb.out.below b6 hzq).set0 _).set1 _).set2 _).set3 _
        have HB9 := Lib.hid (show Below wr.heap.size wr w8 by rw [hw8]; exact (((b7.setCell (p := ⟨_, _, _⟩) (Nat.le_refl _) _).setCell (p := ⟨_, _, _⟩) (Nat.le_refl _) _).setCell (p := ⟨_, _, _⟩) (Nat.le_refl _) _).setCell (p := ⟨_, _, _⟩) (Nat.le_refl _) _)
        have hzQ : wr.heap.size < w8.heap.size := by have := b6.size; omega
        have HE : Hid (∃ es' : List Ent, n6 = es'.length ∧ ES w8 (w.heap.size + 1 + 1) w8.heap.size (.slice A6 n6 c6) es' ∧ GenR (apE ⟨es, a, b, z⟩ ⟨ek, lb, l, r, f, t, g⟩) rs es' ra rb rz) := by
          obtain ⟨es', q1, q2, q3⟩ := HG.out
          refine ⟨es', q1, ?_, q3⟩
          rw [hw8]
          refine ES.wide (lo := wq.heap.size) (hi := x6.heap.size) (q2.kept fun q hq _ => ?_) (by omega) (by simp [World.setCell])
          simp only [World.setCell, Array.getElem?_modify, if_neg (show ¬ wr.heap.size = q by have h1 : wq.heap.size ≤ q := hq; omega)]
        obtain ⟨X, hX⟩ : ∃ X, X = wr.heap.size := ⟨_, rfl⟩
        rw [← hw8]
        rw [← hX] at HX
        have hXw : wr.heap.size ≤ X := by omega
        clear d0 d1 d2 d3 fd0 fd1 fd2 fd3 Hqb hne1 hne2 hw8
        rw [← hX]
        clear b6 b7 hz7 HG hX bq hzq hz8 wq
        rename World => wq
      all_goals
        have hmq := Hmb.out.below HB9.out (by omega)
        have haq := Hma.out.below HB9.out (by omega)
        have Hbq := Lib.hid (Hb.out.trans (HB9.out.mono (by omega)))
        obtain ⟨⟨p00, p01, p02, p03⟩, ⟨g00, g01, g02, g03⟩⟩ := haq.cells
        obtain ⟨⟨p10, p11, p12, p13⟩, ⟨g10, g11, g12, g13⟩⟩ := hmq.cells
        obtain ⟨⟨p20, p21, p22, p23⟩, _⟩ := HX.out.cells
        obtain ⟨es', hn6, hes', hG⟩ := HE.out
        subst hn6
        have Hmq := Lib.hid hmq
        have Haq := Lib.hid haq
        have Hes' := Lib.hid hes'
        have hne1 : ¬ w.heap.size + 1 = X := by omega
        have hne2 : ¬ X = w.heap.size + 1 := by omega
        clear hmq haq hes' HE HB9 HX Hmb Hma Hb c00 c01 c02 c03 c10 c11 c12 c13 f00 f01 f02 f03 f10 f11 f12 f13 e0 e1 e2 e3 e4 e5 e6
        rcases hG with ⟨rfl, hr⟩ | ⟨rfl, hr⟩
        · have HS := Lib.hid (HON.out _ hr)
          have HK' := Lib.hid (apE_ok hr)
          clear HON HST hr HOK H64
          go_wp2
          obtain ⟨w9, hw9⟩ : ∃ w9, w9 = (((wq.setCell ⟨w.heap.size + 1, 0, none⟩ (.slice A6 es'.length c6)).setCell ⟨w.heap.size + 1, 1, none⟩ (.int .i64 ra)).setCell ⟨w.heap.size + 1, 2, none⟩ (.int .i64 rb)).setCell ⟨w.heap.size + 1, 3, none⟩ (.int .i64 rz) := ⟨_, rfl⟩
          have hz9 : w9.heap.size = wq.heap.size := by rw [hw9]; simp [World.setCell]
          have ex : ∀ q, ¬ w.heap.size + 1 = q → w9.heap[q]? = wq.heap[q]? := fun q hq => by rw [hw9]; simp only [World.setCell, Array.getElem?_modify, if_neg hq]
          have HM9 := Lib.hid (show MB w9 (w.heap.size + 1) (.slice A6 es'.length c6) ra rb rz by rw [hw9]; exact (((Hmq.out.set0 _).set1 _).set2 _).set3 _)
          have HA9 := Lib.hid (Haq.out.kept (ex _ (by omega)))
          have HE9 := Lib.hid (show ES w9 (w.heap.size + 1 + 1) w9.heap.size (.slice A6 es'.length c6) es' from (Hes'.out.kept fun q hq _ => ex q (by omega)).wide (Nat.le_refl _) (by omega))
          have HB9 := Lib.hid (show Below w.heap.size w w9 by rw [hw9]; exact (((Hbq.out.setCell (p := ⟨_, _, _⟩) (by simp) _).setCell (p := ⟨_, _, _⟩) (by simp) _).setCell (p := ⟨_, _, _⟩) (by simp) _).setCell (p := ⟨_, _, _⟩) (by simp) _)
          rw [← hw9]
          clear hw9 ex
          go_roundw
          case rel => exact ⟨k + 1, ⟨es', ra, rb, rz⟩, A6, c6, by omega, by go_num, HB9.out, HM9.out, HA9.out, HE9.out, by omega, ⟨HS.out, HK'.out⟩⟩
          case measure => simp [intOf]; omega
        · have HS := Lib.hid (HST.out hr)
          clear HON HST hr HOK H64
          go_wp2
          refine bodyPost_ret (v := .tuple #[.agg #[.slice none 0 0, .int .i64 0, .int .i64 0, .int .i64 0], .bool false]) (by simp [results, Tryz.results49, go_sem, *]) rfl ?_
          rw [HS.out]
          exact ApPost.none (((((Hbq.out.setCell (p := ⟨_, _, _⟩) (by simp) _).setCell (p := ⟨_, _, _⟩) (by simp) _).setCell (p := ⟨_, _, _⟩) (by simp) _).setCell (p := ⟨_, _, _⟩) (by simp) _))
    · have hke : k = evs.length := by omega
      have HS := Lib.hid (show runB Mil.nil evs = some ⟨es, a, b, z⟩ by have := HK.out.1; rw [hke, List.take_length] at this; exact this)
      have hnk : ¬ (k : Int) < (evs.length : Int) := by omega
      have Hb := Lib.hid bw
      clear HK bw hts
      obtain ⟨w9, hw9⟩ : ∃ w9, w9 = (((wr.setCell ⟨w.heap.size, 0, none⟩ (.slice A1 es.length c1)).setCell ⟨w.heap.size, 1, none⟩ (.int .i64 a)).setCell ⟨w.heap.size, 2, none⟩ (.int .i64 b)).setCell ⟨w.heap.size, 3, none⟩ (.int .i64 z) := ⟨_, rfl⟩
      have HE9 := Lib.hid (show ES w9 (w.heap.size + 1 + 1) wr.heap.size (.slice A1 es.length c1) es by
        rw [hw9]
        exact Hes.out.kept fun q hq _ => by simp only [World.setCell, Array.getElem?_modify, if_neg (show ¬ w.heap.size = q by omega)])
      have HB9 := Lib.hid (show Below w.heap.size w w9 by rw [hw9]; exact (((Hb.out.setCell (p := ⟨_, _, _⟩) (by simp) _).setCell (p := ⟨_, _, _⟩) (by simp) _).setCell (p := ⟨_, _, _⟩) (by simp) _).setCell (p := ⟨_, _, _⟩) (by simp) _)
      have HZ9 := Lib.hid (show w9.heap.size = wr.heap.size by rw [hw9]; simp [World.setCell])
      have Hw9 := Lib.hid hw9
      clear hw9
      go_wp2
      refine bodyPost_ret (v := .tuple #[.agg #[.slice A1 es.length c1, .int .i64 a, .int .i64 b, .int .i64 z], .bool true]) (by simp [results, Tryz.results49, go_sem, *]) rfl ?_
      rw [← Hw9.out, HS.out]
      exact ApPost.some HB9.out (HE9.out.wide (by omega) (by have := HZ9.out; omega))

theorem Mil.i64 {m : Mil} (h : m.ok = true) : I64 m.a ∧ I64 m.b ∧ I64 m.z := by
  have hv := vMill_iff.1 h
  exact ⟨⟨by omega, by omega⟩, ⟨by omega, by omega⟩, ⟨by omega, by omega⟩⟩
theorem apV_ok {m : Mil} (e : Evt) (h : m.ok = true) : apV m e = apE m e := by unfold apV; rw [if_pos h]
set_option maxRecDepth 100000 in
set_option maxHeartbeats 8000000 in
theorem RunBook_any (lo hi : Nat) (v : Value) (evs : List Evt) (w : World) (h : TS w lo hi 7 v (evT evs)) (hhi : hi ≤ w.heap.size) :
    Calls Tryz.prog 22 #[v] w fun e w' => OpPost w (rbV evs) e w' := by
  obtain ⟨A, c, rfl, hc, hm⟩ := h.form
  rw [evT_len] at hc ⊢
  have hts : ∀ w1, Below w.heap.size w w1 → TS w1 lo hi 7 (.slice A evs.length c) (evT evs) := fun w1 hb => by have := h.below hb hhi; rw [evT_len] at this; exact this
  clear h
  by_cases hl : evs.length ≤ 60
  rotate_left
  · have hnl : (60 : Int) < (evs.length : Int) := by omega
    have hnl2 : (evs.length : Int) > 60 := by omega
    have HR := Lib.hid (show rbV evs = none by unfold rbV; rw [if_neg hl])
    have Hb := Lib.hid (show Below w.heap.size w (w.alloc (.cells #[.slice none 0 0, .int .i64 0, .int .i64 0, .int .i64 0] 25)) from (Below.refl _ _).alloc (Nat.le_refl _) _)
    clear hts
    go_enter Tryz.func22, Tryz.ntmps22
    go_wp2
    refine bodyPost_ret (v := .tuple #[.agg #[.slice none 0 0, .int .i64 0, .int .i64 0, .int .i64 0], .bool false]) (by simp [results, Tryz.results22, go_sem, *]) rfl ?_
    rw [HR.out]
    refine OpPost.none ?_
    first | exact Hb.out | exact ((Below.refl _ _).alloc (Nat.le_refl _) _) | exact (((((Hb.out.setCell (p := ⟨_, _, _⟩) (by simp) _).setCell (p := ⟨_, _, _⟩) (by simp) _).setCell (p := ⟨_, _, _⟩) (by simp) _).setCell (p := ⟨_, _, _⟩) (by simp) _))
  have hnl : ¬ (60 : Int) < (evs.length : Int) := by omega
  have hnl2 : ¬ (evs.length : Int) > 60 := by omega
  have HR2 := Lib.hid (show rbV evs = runB Mil.nil evs by unfold rbV; rw [if_pos hl])
  have Hs := Lib.hid (show ∃ w1, w1 = (w.alloc (.cells #[.slice none 0 0, .int .i64 0, .int .i64 0, .int .i64 0] 25)).alloc (.cells #[.slice none 0 0, .int .i64 0, .int .i64 0, .int .i64 0] 25) ∧ Below w.heap.size w w1 ∧ MB w1 w.heap.size (.slice none 0 0) 0 0 0 ∧ MB w1 (w.heap.size + 1) (.slice none 0 0) 0 0 0 ∧ w.heap.size + 1 + 1 ≤ w1.heap.size from by
    refine ⟨_, rfl, ((Below.refl _ _).alloc (Nat.le_refl _) _).alloc (by simp) _, ?_, ?_, by simp⟩
    · refine Eq.trans ?_ (heap_alloc_new w (.cells #[.slice none 0 0, .int .i64 0, .int .i64 0, .int .i64 0] 25))
      exact ((Below.refl _ _).alloc (Nat.le_refl _) _).block _ (by simp)
    · have := heap_alloc_new (w.alloc (.cells #[.slice none 0 0, .int .i64 0, .int .i64 0, .int .i64 0] 25)) (.cells #[.slice none 0 0, .int .i64 0, .int .i64 0, .int .i64 0] 25)
      unfold MB
      simpa using this)
  go_enter Tryz.func22, Tryz.ntmps22
  go_wp2
  obtain ⟨w1, hw1, hb0, hma, hmb, hz1⟩ := Hs.out
  rw [← hw1]
  clear hw1 Hs
  go_loopw [15] (fun i wr => ∃ (k : Nat) (m : Mil) (A1 : Option Addr) (c1 : Nat), k ≤ evs.length ∧ i = .int .i64 k ∧ Below w.heap.size w wr ∧ MB wr (w.heap.size + 1) (.slice A1 m.es.length c1) m.a m.b m.z ∧ MB wr w.heap.size (.slice none 0 0) 0 0 0 ∧ OwnE wr (w.heap.size + 1 + 1) wr.heap.size 58 92 38 (.slice A1 m.es.length c1) m.es ∧ w.heap.size + 1 + 1 ≤ wr.heap.size ∧ Hid (runB Mil.nil (evs.take k) = some m ∧ m.ok = true)) (fun i _ => evs.length - (intOf i).toNat)
  case atStart => exact ⟨0, Mil.nil, none, 0, by omega, rfl, hb0, hmb, hma, OwnE.nil _ _ _ _ _ _, hz1, ⟨rfl, nil_ok⟩⟩
  case round =>
    clear hma hmb hb0
    obtain ⟨k, ⟨es, a, b, z⟩, A1, c1, hk, rfl, bw, hmb, hma, hes, hzr, HK⟩ := hrel
    dsimp only at hmb hes
    have hmb1 := hmb
    have hma1 := hma
    obtain ⟨⟨c00, c01, c02, c03⟩, ⟨f00, f01, f02, f03⟩⟩ := hma1.cells
    obtain ⟨⟨c10, c11, c12, c13⟩, ⟨f10, f11, f12, f13⟩⟩ := hmb1.cells
    have Hmb := Lib.hid hmb
    have Hma := Lib.hid hma
    have Hes := Lib.hid hes
    clear hmb hma hes hmb1 hma1
    by_cases hlt : k < evs.length
    · obtain ⟨b9, o, rfl, _, hb9h, e0, e1, e2, e3, e4, e5, e6⟩ := (hts wr bw).c7 (by rw [evT_len]; exact hlt)
      have h64 := ve_v64 (hts wr bw) hlt
      rw [ve_row hlt] at e0 e1 e2 e3 e4 e5 e6
      have hk0 : (0 : Int) ≤ (k : Int) := by omega
      have hk1 : (k : Int) < (evs.length : Int) := by omega
      have Hb := Lib.hid bw
      have HST := Lib.hid (fun h2 => runB_stop hlt HK.out.1 h2)
      have HON := Lib.hid (fun m2 h2 => runB_one (m2 := m2) hlt HK.out.1 h2)
      have HOK := Lib.hid HK.out.2
      obtain ⟨E, hE⟩ : ∃ E, E = ve evs k := ⟨_, rfl⟩
      rw [← hE] at e0 e1 e2 e3 e4 e5 e6 h64 HST HON
      obtain ⟨ek, lb, l, r, f, t, g⟩ := E
      replace e0 : wr.cell? ⟨b9, o + k * 7, none⟩ = some (.int .i64 ek) := e0
      replace e1 : wr.cell? ⟨b9, o + k * 7 + 1, none⟩ = some (.int .i64 lb) := e1
      replace e2 : wr.cell? ⟨b9, o + k * 7 + 2, none⟩ = some (.int .i64 l) := e2
      replace e3 : wr.cell? ⟨b9, o + k * 7 + 3, none⟩ = some (.int .i64 r) := e3
      replace e4 : wr.cell? ⟨b9, o + k * 7 + 4, none⟩ = some (.int .i64 f) := e4
      replace e5 : wr.cell? ⟨b9, o + k * 7 + 5, none⟩ = some (.int .i64 t) := e5
      replace e6 : wr.cell? ⟨b9, o + k * 7 + 6, none⟩ = some (.int .i64 g) := e6
      have H64 := Lib.hid h64
      clear hE h64 bw HK
      have hbd : Below wr.heap.size wr (wr.alloc (.cells #[.int .i64 ek, .int .i64 lb, .int .i64 l, .int .i64 r, .int .i64 f, .int .i64 t, .int .i64 g] 40)) := (Below.refl _ _).alloc (Nat.le_refl _) _
      have x_c10 := keepB hbd c10
      have x_c11 := keepB hbd c11
      have x_c12 := keepB hbd c12
      have x_c13 := keepB hbd c13
      go_wp2_with fail
      clear hbd x_c10 x_c11 x_c12 x_c13
      obtain ⟨wa, hw1⟩ : ∃ wa, wa = wr.alloc (.cells #[.int .i64 ek, .int .i64 lb, .int .i64 l, .int .i64 r, .int .i64 f, .int .i64 t, .int .i64 g] 40) := ⟨_, rfl⟩
      have y_0 : wa.cell? ⟨wr.heap.size, 0, none⟩ = some (.int .i64 ek) := by rw [hw1]; go_simp
      have y_1 : wa.cell? ⟨wr.heap.size, 1, none⟩ = some (.int .i64 lb) := by rw [hw1]; go_simp
      have y_2 : wa.cell? ⟨wr.heap.size, 2, none⟩ = some (.int .i64 l) := by rw [hw1]; go_simp
      have y_3 : wa.cell? ⟨wr.heap.size, 3, none⟩ = some (.int .i64 r) := by rw [hw1]; go_simp
      have y_4 : wa.cell? ⟨wr.heap.size, 4, none⟩ = some (.int .i64 f) := by rw [hw1]; go_simp
      have y_5 : wa.cell? ⟨wr.heap.size, 5, none⟩ = some (.int .i64 t) := by rw [hw1]; go_simp
      have y_6 : wa.cell? ⟨wr.heap.size, 6, none⟩ = some (.int .i64 g) := by rw [hw1]; go_simp
      have by_ : Below wr.heap.size wr wa := by rw [hw1]; exact (Below.refl _ _).alloc (Nat.le_refl _) _
      have zy_ : wr.heap.size < wa.heap.size := by rw [hw1]; simp
      rw [← hw1]
      clear hw1
      have Hes1 := Lib.hid (Hes.out.below by_ (Nat.le_refl _))
      have Hba := Lib.hid by_
      have hmba := Hmb.out.below by_ (by omega)
      clear by_ Hes
      refine (ApplyEvent_any (w.heap.size + 1 + 1) wr.heap.size _ ⟨es, a, b, z⟩ ⟨ek, lb, l, r, f, t, g⟩ wa Hes1.out.es (by omega) (Mil.i64 HOK.out) H64.out).mono ?_
      intro e x6 hpost
      rw [apV_ok _ HOK.out] at hpost
      obtain ⟨A6, n6, c6, ra, rb, rz, rs, rfl, b6, HG⟩ := hpost.gen
      clear hpost
      have Hb7 := Lib.hid (Hba.out.trans (b6.mono (by omega)))
      have hz7 : wa.heap.size ≤ x6.heap.size := b6.size
      have hmq := Hmb.out.below Hb7.out (by omega)
      have haq := Hma.out.below Hb7.out (by omega)
      have Hbq := Lib.hid (Hb.out.trans (Hb7.out.mono (by omega)))
      have Hmq := Lib.hid hmq
      have Haq := Lib.hid haq
      obtain ⟨⟨p00, p01, p02, p03⟩, ⟨g00, g01, g02, g03⟩⟩ := haq.cells
      obtain ⟨⟨p10, p11, p12, p13⟩, ⟨g10, g11, g12, g13⟩⟩ := hmq.cells
      obtain ⟨es', hn6, hes', hG⟩ := HG.out
      subst hn6
      have Hes' := Lib.hid hes'
      clear hmq haq hes' HG b6 Hmb Hma Hb Hba hmba c00 c01 c02 c03 c10 c11 c12 c13 f00 f01 f02 f03 f10 f11 f12 f13 e0 e1 e2 e3 e4 e5 e6 y_0 y_1 y_2 y_3 y_4 y_5 y_6
      have hx1 : w.heap.size + 1 < x6.heap.size := by omega
      have hx2 : w.heap.size < x6.heap.size := by omega
      rcases hG with ⟨rfl, hr⟩ | ⟨rfl, hr⟩
      · have HS := Lib.hid (HON.out _ hr)
        have HK' := Lib.hid (apE_ok hr)
        clear HON HST hr HOK H64
        go_wp2
        obtain ⟨w8, hw8⟩ : ∃ w8, w8 = (((x6.setCell ⟨w.heap.size + 1, 0, none⟩ (.slice A6 es'.length c6)).setCell ⟨w.heap.size + 1, 1, none⟩ (.int .i64 ra)).setCell ⟨w.heap.size + 1, 2, none⟩ (.int .i64 rb)).setCell ⟨w.heap.size + 1, 3, none⟩ (.int .i64 rz) := ⟨_, rfl⟩
        have hz8 : w8.heap.size = x6.heap.size := by rw [hw8]; simp [World.setCell]
        have ex : ∀ q, ¬ w.heap.size + 1 = q → w8.heap[q]? = x6.heap[q]? := fun q hq => by rw [hw8]; simp only [World.setCell, Array.getElem?_modify, if_neg hq]
        have hm8 : MB w8 (w.heap.size + 1) (.slice A6 es'.length c6) ra rb rz := by rw [hw8]; exact (((Hmq.out.set0 _).set1 _).set2 _).set3 _
        have ha8 := Haq.out.kept (ex _ (by omega))
        have he8 : OwnE w8 (w.heap.size + 1 + 1) x6.heap.size 58 92 38 (.slice A6 es'.length c6) es' := (Hes'.out.kept fun q hq _ => ex q (by omega)).wide (by omega) (Nat.le_refl _)
        have hb8 : Below w.heap.size w w8 := by rw [hw8]; exact (((Hbq.out.setCell (p := ⟨_, _, _⟩) (by simp) _).setCell (p := ⟨_, _, _⟩) (by simp) _).setCell (p := ⟨_, _, _⟩) (by simp) _).setCell (p := ⟨_, _, _⟩) (by simp) _
        rw [← hw8]
        clear hw8 ex
        obtain ⟨w9, hw9⟩ : ∃ w9, w9 = w8.alloc (.cells #[.slice A6 es'.length c6, .int .i64 ra, .int .i64 rb, .int .i64 rz] 25) := ⟨_, rfl⟩
        have b9' : Below w8.heap.size w8 w9 := by rw [hw9]; exact (Below.refl _ _).alloc (Nat.le_refl _) _
        have HM9 := Lib.hid (hm8.below b9' (by omega))
        have HA9 := Lib.hid (ha8.below b9' (by omega))
        have HE9 := Lib.hid ((he8.below b9' (by omega)).wide (Nat.le_refl _) (show x6.heap.size ≤ w9.heap.size by have := b9'.size; omega))
        have HB9 := Lib.hid (hb8.trans (b9'.mono (by omega)))
        have hz9 : w8.heap.size ≤ w9.heap.size := b9'.size
        rw [← hw9]
        clear hw9 hm8 ha8 he8 hb8 b9'
        go_roundw
        case rel => exact ⟨k + 1, ⟨es', ra, rb, rz⟩, A6, c6, by omega, by go_num, HB9.out, HM9.out, HA9.out, HE9.out, by omega, ⟨HS.out, HK'.out⟩⟩
        case measure => simp [intOf]; omega
      · have HS := Lib.hid (HST.out hr)
        clear HON HST hr HOK H64
        go_wp2
        refine bodyPost_ret (v := .tuple #[.agg #[.slice none 0 0, .int .i64 0, .int .i64 0, .int .i64 0], .bool false]) (by simp [results, Tryz.results22, go_sem, *]) rfl ?_
        rw [HR2.out, HS.out]
        exact OpPost.none ((((((Hbq.out.setCell (p := ⟨_, _, _⟩) (by simp) _).setCell (p := ⟨_, _, _⟩) (by simp) _).setCell (p := ⟨_, _, _⟩) (by simp) _).setCell (p := ⟨_, _, _⟩) (by simp) _)).alloc (by simp [World.setCell]; omega) _)
    · have hke : k = evs.length := by omega
      have HS := Lib.hid (show rbV evs = some ⟨es, a, b, z⟩ by have := HK.out.1; rw [hke, List.take_length] at this; rw [HR2.out]; exact this)
      have hnk : ¬ (k : Int) < (evs.length : Int) := by omega
      have Hb := Lib.hid bw
      clear HK bw hts
      obtain ⟨w9, hw9⟩ : ∃ w9, w9 = (((wr.setCell ⟨w.heap.size, 0, none⟩ (.slice A1 es.length c1)).setCell ⟨w.heap.size, 1, none⟩ (.int .i64 a)).setCell ⟨w.heap.size, 2, none⟩ (.int .i64 b)).setCell ⟨w.heap.size, 3, none⟩ (.int .i64 z) := ⟨_, rfl⟩
      have HE9 := Lib.hid (show OwnE w9 (w.heap.size + 1 + 1) wr.heap.size 58 92 38 (.slice A1 es.length c1) es by
        rw [hw9]
        exact Hes.out.kept fun q hq _ => by simp only [World.setCell, Array.getElem?_modify, if_neg (show ¬ w.heap.size = q by omega)])
      have HB9 := Lib.hid (show Below w.heap.size w w9 by rw [hw9]; exact (((Hb.out.setCell (p := ⟨_, _, _⟩) (by simp) _).setCell (p := ⟨_, _, _⟩) (by simp) _).setCell (p := ⟨_, _, _⟩) (by simp) _).setCell (p := ⟨_, _, _⟩) (by simp) _)
      have HZ9 := Lib.hid (show w9.heap.size = wr.heap.size by rw [hw9]; simp [World.setCell])
      have Hw9 := Lib.hid hw9
      clear hw9
      go_wp2
      refine bodyPost_ret (v := .tuple #[.agg #[.slice A1 es.length c1, .int .i64 a, .int .i64 b, .int .i64 z], .bool true]) (by simp [results, Tryz.results22, go_sem, *]) rfl ?_
      rw [← Hw9.out, HS.out]
      exact OpPost.some HB9.out (HE9.out.wide (by omega) (by have := HZ9.out; omega))
end Go.Proofs.YtkgepklapglmdaaGreatDoor
