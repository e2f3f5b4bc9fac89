/-
  Lemmas and contracts of single functions of this program, used by the proofs of its laws: what each call returns and what becomes of memory. Conditions: the hypotheses of each theorem.
-/
import Derived.Test.YteckjiaaikdghaaPriS
import Derived.Test.YteckjiaaikdghaaFewQ
namespace Go.Proofs.Yteckjiaaikdghaa
open Go.RowKit
attribute [local go_sem ↓] Go.wp_at_zero Go.wp_at_succ

/-- 'append(v, x)' of ints, at a step of a region that draws -/
theorem step_appendI {P : Program} {t e : TypeId} (S : SlT P t e (.int .i64 0) 1 8) {ops : Array Oper} {o : Oper} {a : Act} {K : Act → World → Prop} {Q : Exit → Act → World → Prop} {E : Prop} (w : World) (hgd : o.guard = none) (s x : Operand)
    (ho : o.op = .call { callee := .builtin .append, args := #[s, x], argTypes := #[t, t] }) (y : Int)
    (base : Nat) (v : Value) (xs : List Int) (hs : a.eval s = v) (hx : a.eval x = .slice (some ⟨w.heap.size, 0, none⟩) 1 1) (hown : OwnI w base e v xs) (hy : I64 y)
    (hn : xs.length ≤ 1099511627776) (hb : base ≤ w.heap.size)
    (h : ∀ v' w', OwnI w' base e v' (xs ++ [y]) → Grew base v v' w w' → K (a.put o.dst v') w') :
    if Region.wanted o (yielded ops a.tmps) = true then Oper.wp P o a (w.alloc (.cells #[.int .i64 y] e)) K Q else E := by
  obtain ⟨i, hi, hz1, hz2, hz3⟩ := info_parts S.hi
  refine step_append_lies (w.alloc _) hgd s x t ho base e i _ 1 8 S.ht hi hz1 hz2 hz3 S.hz S.hs v xs.length (xs.map (.int .i64)) hs (hown.1.alloc _) ⟨w.heap.size, 0, none⟩ 1 1 [.int .i64 y] hx (by simp)
    (fun j u hu => by have := cells_at_new (w := w) (e := e) (cs := #[Value.int .i64 y]) (j := j) (u := u) (by simpa using hu); exact this) (by simp [Value.oneCell']) (by omega) (by unfold maxLen; omega) (by omega) (by simp; omega) _ rfl fun g cap w' k1 k2 _ _ => h _ w' ⟨?_, ?_⟩ ⟨?_, ?_, ?_⟩
  · simpa using k1
  · intro z hz
    rcases List.mem_append.1 hz with hz | hz
    · exact hown.2 z hz
    · rw [List.mem_singleton.1 hz]; exact hy
  · exact ((Below.refl base w).alloc hb _).grown k2 (by simp; omega) fun k hk => (hown.lt k hk).1
  · have := k2.size; simp at this; omega
  · intro k hk hne
    rw [k2.block k (by simp; omega) hne]
    exact Below.heap_alloc w _ k hk
def PbPost (w : World) (e : Ending) (w' : World) : Prop := ∃ (p : Int) (u1 u2 u3 : Value) (ws xs vs : List Int), e = .returned (.tuple #[.int .i64 p, u1, u2, u3]) ∧ Ints w' w.heap.size w'.heap.size u1 ws ∧ Ints w' w.heap.size w'.heap.size u2 xs ∧ Ints w' w.heap.size w'.heap.size u3 vs ∧ Below w.heap.size w w'
set_option maxRecDepth 100000 in
set_option maxHeartbeats 4000000 in
theorem DrawPriceBound_any (v : Value) (bs : List Int) (w : World) (h : Bytes w 0 w.heap.size v bs) :
    Calls Try.prog 43 #[v] w fun e w' => PbPost w e w' := by
  have hv : ∃ A n c, v = .slice A n c := by obtain ⟨A, c, e, _⟩ := h; exact ⟨A, _, c, e⟩
  obtain ⟨A0, n0, c0, rfl⟩ := hv
  go_enter Try.func43, Try.ntmps43
  go_wp2_with fail
  refine (newReader_any _ bs w h).mono ?_
  rintro e w2 ⟨rv, rfl, hr2, bx⟩
  obtain ⟨k2, hk2⟩ : ∃ k : Nat, k = 0 := ⟨0, rfl⟩
  have hz2 := hr2.lt
  have HB2 := Lib.hid bx
  clear h bx
  go_wp2_with fail
  refine (anyWidths_any _ _ _ rv w2 hr2 (by omega)).mono ?_
  rintro e w3 ⟨p, u, ws, k1, rfl, hp, ho3, hl5, hr3, hk3, bg3⟩
  have hfo := ho3.form
  obtain ⟨A, c, rfl, hc, hm⟩ := hfo
  have HB3 := Lib.hid (HB2.out.trans (below_of_grown bg3 (Nat.le_refl _) (by omega)))
  have HO3 := Lib.hid ho3
  have HP := Lib.hid hp
  have hz3 := bg3.size
  clear hr2 HB2 bg3 ho3 hp
  go_wp2_with fail
  refine (one_lit _ _ _ rv [5, 6, 4, 20] w3 _ _ _ hr3 (by omega) rfl rfl rfl (by simp) (by simp) (by unfold I64; simp)).mono ?_
  rintro e w4 ⟨q, rfl, hq, hr4, bg4⟩
  have hqr : 0 ≤ q ∧ q ≤ 100 := by simp only [List.mem_cons, List.not_mem_nil, or_false] at hq; omega
  have HB4 := Lib.hid (HB3.out.trans (below_of_grown bg4 (Nat.le_refl _) (by omega)))
  have HO4 := Lib.hid (HO3.out.grownK bg4 (by omega))
  have hz4 := bg4.size
  clear hr3 HB3 HO3 bg4 hq
  go_wp2_with fail
  refine (someWants_any _ _ _ ws.length c rv A q w4 hr4 (by omega) hl5 hqr).mono ?_
  rintro e w5 ⟨u5, xs, k5, rfl, ho5, hr5, hk5, bg5⟩
  have hf5 := ho5.form
  obtain ⟨A5, c5, rfl, hc5, hm5⟩ := hf5
  have HB5 := Lib.hid (HB4.out.trans (below_of_grown bg5 (Nat.le_refl _) (by omega)))
  have HO5 := Lib.hid (HO4.out.grownK bg5 (by omega))
  have HX5 := Lib.hid ho5
  have hz5 := bg5.size
  clear HB4 HO4 bg5 ho5
  have b1 : Below w5.heap.size w5 (w5.alloc (.cells #[] 3)) := (Below.refl _ _).alloc (Nat.le_refl _) _
  have HE0 := Lib.hid (OwnI.empty w5 w5.heap.size 3 (Nat.le_refl _))
  have HR0 := Lib.hid (hr5.below b1)
  have HG0 := Lib.hid (HB5.out.trans (b1.mono (by omega)))
  have HW0 := Lib.hid ((HO5.out.ints.below b1 (Nat.le_refl _)).wide (show w2.heap.size ≤ w2.heap.size from Nat.le_refl _) (Nat.le_refl _))
  have HX0 := Lib.hid ((HX5.out.ints.below b1 (Nat.le_refl _)).wide (show w2.heap.size ≤ w4.heap.size by omega) (Nat.le_refl _))
  have HZ0 := Lib.hid (show w5.heap.size ≤ (w5.alloc (.cells #[] 3)).heap.size from b1.size)
  clear hr5 b1 HB5 HO5 HX5
  go_wp2
  go_loopw [10, 11] (fun o i wr => ∃ (j k' : Nat) (vs : List Int), j ≤ ws.length ∧ i = .int .i64 j ∧ k' ≤ k5 + 2 * j ∧ vs.length = j ∧ Hid (OwnI wr w5.heap.size 3 o vs) ∧ Hid (Rdr wr w.heap.size k' w.heap.size rv) ∧ Hid (Below w.heap.size w wr) ∧ Hid (Ints wr w2.heap.size w5.heap.size (.slice A ws.length c) ws) ∧ Hid (Ints wr w2.heap.size w5.heap.size (.slice A5 xs.length c5) xs) ∧ w5.heap.size ≤ wr.heap.size) (fun _ i _ => ws.length - (intOf i).toNat)
  case atStart => exact ⟨0, k5, [], Nat.zero_le _, rfl, by omega, rfl, HE0.out, HR0.out, HG0.out, HW0.out, HX0.out, HZ0.out⟩
  case round =>
    clear HE0 HR0 HG0 HW0 HX0 HZ0
    obtain ⟨j, k1', vs, hj, rfl, hk', hvl, HO, HR, HG, HW, HX, hzr⟩ := hrel
    obtain ⟨wo, rfl⟩ : ∃ wo : World, wo = wr := ⟨_, rfl⟩
    have hfo := HO.out.form
    obtain ⟨Ao, co, rfl, hco, hco2⟩ := hfo
    rw [hvl] at HO hco ⊢
    have HVL := Lib.hid hvl
    clear hvl
    by_cases hlt : j < ws.length
    rotate_left
    · have hnj : ¬ (j : Int) < (ws.length : Int) := by omega
      have H3 := Lib.hid (HO.out.ints.wide (show w.heap.size ≤ w5.heap.size by omega) (Nat.le_refl _))
      go_wp2
      refine bodyPost_ret (v := .tuple #[.int .i64 p, .slice A ws.length c, .slice A5 xs.length c5, .slice Ao j co]) (by simp [results, Try.results43, go_sem, *]) rfl ⟨p, _, _, _, ws, xs, vs, rfl, HW.out.wide (by omega) hzr, HX.out.wide (by omega) hzr, H3.out, HG.out⟩
    obtain ⟨b, o, hA, hb1, hb2, cb, hx64⟩ := HW.out.cell hlt
    subst hA
    have j0 : (0 : Int) ≤ (j : Int) := by omega
    have j1 : (j : Int) < (ws.length : Int) := by omega
    obtain ⟨x, hxe⟩ : ∃ x, x = gi ws j := ⟨_, rfl⟩
    rw [← hxe] at cb hx64
    clear hxe
    obtain ⟨mx, hmx⟩ : ∃ m, m = max x 0 := ⟨_, rfl⟩
    have hmax : max x 0 = mx := hmx.symm
    have HM := Lib.hid (show I64 mx by have h1 := hx64.1; have h2 := hx64.2; refine ⟨by omega, ?_⟩; rw [hmx]; rcases Int.le_total x 0 with h | h <;> omega)
    have cd : wo.drew.cell? ⟨b, o + j, none⟩ = some (.int .i64 x) := cb
    have HRd := Lib.hid HR.out.drew
    have HOd := Lib.hid HO.out.drew
    clear hmx hx64
    go_wp2
    refine wp_region_held_drew (S := fun w' => w'.cell? ⟨b, o + j, none⟩ = some (.int .i64 x)) (by kernel_rfl) ?_ (fun hHeld => ?_)
    · (first | (try dsimp only); go_keep | (first | exact keepB bx5 (by assumption) | exact keepB bx4 (by assumption) | exact keepB bx3 (by assumption) | exact keepB bx2 (by assumption) | exact keepB bx1 (by assumption) | exact keepO bo5 (by first | (simp; done) | (simp; omega)) (by assumption) | exact keepO bo4 (by first | (simp; done) | (simp; omega)) (by assumption) | exact keepO bo3 (by first | (simp; done) | (simp; omega)) (by assumption) | exact keepO bo2 (by first | (simp; done) | (simp; omega)) (by assumption) | exact keepO bo1 (by first | (simp; done) | (simp; omega)) (by assumption) | exact keepW bg2 (by first | (simp; done) | (simp; omega)) (by assumption) | exact keepW bg1 (by first | (simp; done) | (simp; omega)) (by assumption)))
    refine wpAnyH_take (i := 0) (oi := ⟨some 32, _, _, _, _, _⟩) (v := _) rfl (by kernel_rfl) (by kernel_rfl) (by kernel_rfl) (fun _ _ _ h => h) (Or.inl ⟨by kernel_rfl, by intro w hSw; (try dsimp only at hSw); go_simp; try with_reducible rfl⟩) (by assumption) ?_
    simp only [Act.put, List.setIfInBounds_toArray, List.set_cons_zero, List.set_cons_succ]
    refine wpAnyH_take (i := 1) (oi := ⟨some 33, _, _, _, _, _⟩) (v := _) rfl (by kernel_rfl) (by kernel_rfl) (by kernel_rfl) (fun _ _ _ h => h) (Or.inl ⟨by kernel_rfl, by intro w hSw; (try dsimp only at hSw); go_simp; try with_reducible rfl⟩) (by assumption) ?_
    simp only [Act.put, List.setIfInBounds_toArray, List.set_cons_zero, List.set_cons_succ]
    refine wpAnyH_take (i := 2) (oi := ⟨some 34, _, _, _, _, _⟩) (v := _) rfl (by kernel_rfl) (by kernel_rfl) (by kernel_rfl) (fun _ _ _ h => h) (Or.inl ⟨by kernel_rfl, by intro w hSw; (try dsimp only at hSw); go_simp; try with_reducible rfl⟩) (by assumption) ?_
    simp only [Act.put, List.setIfInBounds_toArray, List.set_cons_zero, List.set_cons_succ]
    refine wpAnyH_take (i := 3) (oi := ⟨some 35, _, _, _, _, _⟩) (v := _) rfl (by kernel_rfl) (by kernel_rfl) (by kernel_rfl) (fun _ _ _ h => h) (Or.inl ⟨by kernel_rfl, by intro w hSw; (try dsimp only at hSw); go_simp; try with_reducible rfl⟩) (by assumption) ?_
    simp only [Act.put, List.setIfInBounds_toArray, List.set_cons_zero, List.set_cons_succ]
    refine wpAnyH_take (i := 4) (oi := ⟨some 36, _, _, _, _, _⟩) (v := _) rfl (by kernel_rfl) (by kernel_rfl) (by kernel_rfl) (fun _ _ _ h => h) (Or.inl ⟨by kernel_rfl, by intro w hSw; (try dsimp only at hSw); go_simp; try with_reducible rfl⟩) (by assumption) ?_
    simp only [Act.put, List.setIfInBounds_toArray, List.set_cons_zero, List.set_cons_succ]
    refine wpAnyH_take (i := 5) (oi := ⟨some 37, _, _, _, _, _⟩) (v := _) rfl (by kernel_rfl) (by kernel_rfl) (by kernel_rfl) (fun _ _ _ h => h) (Or.inl ⟨by kernel_rfl, by intro w hSw; (try dsimp only at hSw); go_simp; try with_reducible rfl⟩) (by assumption) ?_
    simp only [Act.put, List.setIfInBounds_toArray, List.set_cons_zero, List.set_cons_succ]
    refine wpAnyH_take (i := 6) (oi := ⟨some 38, _, _, _, _, _⟩) (v := _) rfl (by kernel_rfl) (by kernel_rfl) (by kernel_rfl) (fun _ _ _ h => h) (Or.inl ⟨by kernel_rfl, by intro w hSw; (try dsimp only at hSw); go_simp; try with_reducible rfl⟩) (by assumption) ?_
    simp only [Act.put, List.setIfInBounds_toArray, List.set_cons_zero, List.set_cons_succ]
    refine wpAnyH_take (i := 7) (oi := ⟨some 39, _, _, _, _, _⟩) (v := _) rfl (by kernel_rfl) (by kernel_rfl) (by kernel_rfl) (fun _ _ _ h => h) (Or.inl ⟨by kernel_rfl, by intro w hSw; (try dsimp only at hSw); go_simp; try with_reducible rfl⟩) (by assumption) ?_
    simp only [Act.put, List.setIfInBounds_toArray, List.set_cons_zero, List.set_cons_succ]
    refine wpAnyH_ready (rs := [8]) (by kernel_rfl) (by simp) ?_
    refine AllReadyH.cons (o := ⟨some 40, _, _, _, _, _⟩) rfl (fun K hK => ?_) AllReadyH.nil
    go_simp
    go_at_call 81
    refine (pick_any w.heap.size k1' w.heap.size rv 20 _ HRd.out (by omega) (by omega)).mono ?_
    rintro e x1 ⟨y, rfl, hy, hr1, bo1⟩
    have hy1 := hy.rng (m := 20) (by omega) (by omega)
    have bo2 := only_drew bo1
    have cb1 : x1.cell? ⟨b, o + j, none⟩ = some (.int .i64 x) := keepO bo2 (show ¬ b = w.heap.size by omega) cb
    have HO1 := Lib.hid (HO.out.grownK (grown_only bo2) (by omega))
    have hzp : wo.heap.size ≤ x1.heap.size := by have := bo2.size; omega
    go_wp2_with fail
    refine hK.out _ _ ?_ (fun hHeld2 => ?_)
    · (first | (try dsimp only); go_keep | (first | exact keepB bx5 (by assumption) | exact keepB bx4 (by assumption) | exact keepB bx3 (by assumption) | exact keepB bx2 (by assumption) | exact keepB bx1 (by assumption) | exact keepO bo5 (by first | (simp; done) | (simp; omega)) (by assumption) | exact keepO bo4 (by first | (simp; done) | (simp; omega)) (by assumption) | exact keepO bo3 (by first | (simp; done) | (simp; omega)) (by assumption) | exact keepO bo2 (by first | (simp; done) | (simp; omega)) (by assumption) | exact keepO bo1 (by first | (simp; done) | (simp; omega)) (by assumption) | exact keepW bg2 (by first | (simp; done) | (simp; omega)) (by assumption) | exact keepW bg1 (by first | (simp; done) | (simp; omega)) (by assumption)))
    clear hK K hHeld
    have hHeld := hHeld2
    clear hHeld2
    try simp only [Act.put, List.setIfInBounds_toArray, List.set_cons_zero, List.set_cons_succ]
    refine wpAnyH_ready (rs := [9]) (by kernel_rfl) (by simp) ?_
    refine AllReadyH.cons (o := ⟨some 41, _, _, _, _, _⟩) rfl (fun K hK => ?_) AllReadyH.nil
    go_simp
    refine hK.out _ _ ?_ (fun hHeld2 => ?_)
    · (first | (try dsimp only); go_keep | (first | exact keepB bx5 (by assumption) | exact keepB bx4 (by assumption) | exact keepB bx3 (by assumption) | exact keepB bx2 (by assumption) | exact keepB bx1 (by assumption) | exact keepO bo5 (by first | (simp; done) | (simp; omega)) (by assumption) | exact keepO bo4 (by first | (simp; done) | (simp; omega)) (by assumption) | exact keepO bo3 (by first | (simp; done) | (simp; omega)) (by assumption) | exact keepO bo2 (by first | (simp; done) | (simp; omega)) (by assumption) | exact keepO bo1 (by first | (simp; done) | (simp; omega)) (by assumption) | exact keepW bg2 (by first | (simp; done) | (simp; omega)) (by assumption) | exact keepW bg1 (by first | (simp; done) | (simp; omega)) (by assumption)))
    clear hK K hHeld
    have hHeld := hHeld2
    clear hHeld2
    try simp only [Act.put, List.setIfInBounds_toArray, List.set_cons_zero, List.set_cons_succ]
    refine wpAnyH_ready (rs := [10]) (by kernel_rfl) (by simp) ?_
    refine AllReadyH.cons (o := ⟨some 42, _, _, _, _, _⟩) rfl (fun K hK => ?_) AllReadyH.nil
    go_simp
    go_at_call 66
    refine (one_lit w.heap.size (k1' + 1) w.heap.size rv [mx, y, 0, 1] x1 _ _ _ hr1 (by omega) rfl rfl rfl (by simp) (by simp) (fun z hz => by simp only [List.mem_cons, List.not_mem_nil, or_false] at hz; rcases hz with rfl | rfl | rfl | rfl; exact HM.out; exact ⟨by omega, by omega⟩; exact ⟨by omega, by omega⟩; exact ⟨by omega, by omega⟩)).mono ?_
    rintro e x2 ⟨z, rfl, hz, hr2, bg2⟩
    have HZI := Lib.hid (show I64 z by simp only [List.mem_cons, List.not_mem_nil, or_false] at hz; rcases hz with rfl | rfl | rfl | rfl; exact HM.out; exact ⟨by omega, by omega⟩; exact ⟨by omega, by omega⟩; exact ⟨by omega, by omega⟩)
    have cb2 : x2.cell? ⟨b, o + j, none⟩ = some (.int .i64 x) := keepW bg2 ⟨show b < x1.heap.size by omega, show ¬ b = w.heap.size by omega⟩ cb1
    have HO2 := Lib.hid (HO1.out.grownK bg2 (by omega))
    have hzq := bg2.size
    go_wp2_with fail
    refine hK.out _ _ ?_ (fun hHeld2 => ?_)
    · (first | (try dsimp only); go_keep | (first | exact keepB bx5 (by assumption) | exact keepB bx4 (by assumption) | exact keepB bx3 (by assumption) | exact keepB bx2 (by assumption) | exact keepB bx1 (by assumption) | exact keepO bo5 (by first | (simp; done) | (simp; omega)) (by assumption) | exact keepO bo4 (by first | (simp; done) | (simp; omega)) (by assumption) | exact keepO bo3 (by first | (simp; done) | (simp; omega)) (by assumption) | exact keepO bo2 (by first | (simp; done) | (simp; omega)) (by assumption) | exact keepO bo1 (by first | (simp; done) | (simp; omega)) (by assumption) | exact keepW bg2 (by first | (simp; done) | (simp; omega)) (by assumption) | exact keepW bg1 (by first | (simp; done) | (simp; omega)) (by assumption)))
    clear hK K hHeld
    have hHeld := hHeld2
    clear hHeld2
    try simp only [Act.put, List.setIfInBounds_toArray, List.set_cons_zero, List.set_cons_succ]
    refine wpAnyH_ready (rs := [11]) (by kernel_rfl) (by simp) ?_
    refine AllReadyH.cons (o := ⟨some 43, _, _, _, _, _⟩) rfl (fun K hK => ?_) AllReadyH.nil
    go_simp
    refine hK.out _ _ ?_ (fun hHeld2 => ?_)
    · (first | (try dsimp only); go_keep | (first | exact keepB bx5 (by assumption) | exact keepB bx4 (by assumption) | exact keepB bx3 (by assumption) | exact keepB bx2 (by assumption) | exact keepB bx1 (by assumption) | exact keepO bo5 (by first | (simp; done) | (simp; omega)) (by assumption) | exact keepO bo4 (by first | (simp; done) | (simp; omega)) (by assumption) | exact keepO bo3 (by first | (simp; done) | (simp; omega)) (by assumption) | exact keepO bo2 (by first | (simp; done) | (simp; omega)) (by assumption) | exact keepO bo1 (by first | (simp; done) | (simp; omega)) (by assumption) | exact keepW bg2 (by first | (simp; done) | (simp; omega)) (by assumption) | exact keepW bg1 (by first | (simp; done) | (simp; omega)) (by assumption)))
    clear hK K hHeld
    have hHeld := hHeld2
    clear hHeld2
    try simp only [Act.put, List.setIfInBounds_toArray, List.set_cons_zero, List.set_cons_succ]
    refine wpAnyH_ready (rs := [12]) (by kernel_rfl) (by simp) ?_
    refine AllReadyH.cons (o := ⟨some 44, _, _, _, _, _⟩) rfl (fun K hK => ?_) AllReadyH.nil
    refine step_appendI SlI x2 rfl (.tmp 32) (.tmp 43) rfl z w5.heap.size _ vs rfl rfl HO2.out HZI.out (by have := HVL.out; omega) (by omega) ?_
    intro v6 w6 ho6 hg6
    have cb6 : w6.cell? ⟨b, o + j, none⟩ = some (.int .i64 x) := (hg6.below.cell (show b < w5.heap.size by omega)).trans cb2
    refine hK.out _ _ ?_ (fun hHeld2 => ?_)
    · (first | (try dsimp only); go_keep | (first | exact keepB bx5 (by assumption) | exact keepB bx4 (by assumption) | exact keepB bx3 (by assumption) | exact keepB bx2 (by assumption) | exact keepB bx1 (by assumption) | exact keepO bo5 (by first | (simp; done) | (simp; omega)) (by assumption) | exact keepO bo4 (by first | (simp; done) | (simp; omega)) (by assumption) | exact keepO bo3 (by first | (simp; done) | (simp; omega)) (by assumption) | exact keepO bo2 (by first | (simp; done) | (simp; omega)) (by assumption) | exact keepO bo1 (by first | (simp; done) | (simp; omega)) (by assumption) | exact keepW bg2 (by first | (simp; done) | (simp; omega)) (by assumption) | exact keepW bg1 (by first | (simp; done) | (simp; omega)) (by assumption)))
    clear hK K hHeld
    have hHeld := hHeld2
    clear hHeld2
    try simp only [Act.put, List.setIfInBounds_toArray, List.set_cons_zero, List.set_cons_succ]
    refine wpAnyH_take (i := 13) (oi := ⟨some 10, _, _, _, _, _⟩) (v := _) rfl (by kernel_rfl) (by kernel_rfl) (by kernel_rfl) (fun _ _ _ h => h) (Or.inl ⟨by kernel_rfl, by intro w hSw; (try dsimp only at hSw); go_simp; try with_reducible rfl⟩) (by assumption) ?_
    simp only [Act.put, List.setIfInBounds_toArray, List.set_cons_zero, List.set_cons_succ]
    refine wpAnyH_done (by kernel_rfl) ?_ _
    have HK := Lib.hid (show ∀ k, w2.heap.size ≤ k → k < w5.heap.size → w6.heap[k]? = wo.heap[k]? from fun k h1 h2 => by
      rw [hg6.below.block k h2, bg2.block k (by omega) (fun e => by injection e with e; omega), bo2.block k (by omega)])
    have HO6 := Lib.hid ho6
    have HR6 := Lib.hid (hr2.grewK hg6 (by omega))
    have HG6 := Lib.hid (((HG.out.trans (below_of_grown (grown_only bo2) (Nat.le_refl _) (by omega))).trans (below_of_grown bg2 (Nat.le_refl _) (by omega))).trans (hg6.below.mono (by omega)))
    have hz6 := hg6.below.size
    go_wp2
    go_roundw
    case rel => exact ⟨j + 1, k1' + 1 + 1, vs ++ [z], hlt, by go_num, by omega, by rw [List.length_append, List.length_singleton, HVL.out], HO6.out, HR6.out, HG6.out, HW.out.kept fun k h1 h2 => HK.out k h1 h2, HX.out.kept fun k h1 h2 => HK.out k h1 h2, by omega⟩
    case measure => simp [intOf]; omega
set_option maxHeartbeats 1000000 in
theorem product_any (lo hi l2 h2 : Nat) (v u : Value) (ws cs : List Int) (w : World) (h : Ints w lo hi v ws) (hy : Ints w l2 h2 u cs) (hl : cs.length = ws.length) (hl2 : cs.length ≤ 1000) (hr : ∀ i, i < cs.length → 0 ≤ gi cs i ∧ gi cs i ≤ 1000 ∧ 0 ≤ gi ws i ∧ gi ws i ≤ 1000) :
    Calls Try.prog 42 #[v, u] w fun e w' => e = .returned (.int .i64 (usedL cs ws ws.length)) ∧ Qt w w' := by
  obtain ⟨A, c, rfl, hc, hm⟩ := h.form
  obtain ⟨B, d, rfl, hd, hm2⟩ := hy.form
  have HR := Lib.hid hr
  have HL := Lib.hid hl
  have hla : cs.length ≤ ws.length := by omega
  have hlb : ws.length ≤ cs.length := by omega
  clear hr hl
  go_enter Try.func42, Try.ntmps42
  go_wp2
  go_loopw [5, 6] (fun s i wr => ∃ k : Nat, k ≤ ws.length ∧ i = .int .i64 k ∧ s = .int .i64 (usedL cs ws k) ∧ Qt w wr) (fun _ i _ => ws.length - (intOf i).toNat)
  case atStart => exact ⟨0, by omega, rfl, rfl, Qt.refl _⟩
  case round =>
    obtain ⟨k, hk, rfl, rfl, hq⟩ := hrel
    by_cases hlt : k < ws.length
    · obtain ⟨b1, o1, rfl, _, _, hcell, _⟩ := (h.qt hq).cell hlt
      obtain ⟨b2, o2, rfl, _, _, hcell2, _⟩ := (hy.qt hq).cell (k := k) (by omega)
      have hk0 : (0 : Int) ≤ (k : Int) := by omega
      have hk1 : (k : Int) < (ws.length : Int) := by omega
      have hk2 : (k : Int) < (cs.length : Int) := by omega
      have hx := HR.out k (by omega)
      have p0 : 0 ≤ gi ws k * gi cs k := Int.mul_nonneg hx.2.2.1 hx.1
      have p1 : gi ws k * gi cs k ≤ 1000 * 1000 := Int.mul_le_mul hx.2.2.2 hx.2.1 hx.1 (by omega)
      have u0 : 0 ≤ usedL cs ws k := used_nonneg (n := ws.length) (fun i hi => ⟨(HR.out i (by omega)).2.2.1, (HR.out i (by omega)).1⟩) (by omega)
      have u1 : usedL cs ws k ≤ 1000000 * k := used_le (b := 0) (n := ws.length) (fun i hi => by have := HR.out i (by omega); omega) (by omega)
      have g1 : IntKind.i64.wrap (gi ws k * gi cs k) = gi ws k * gi cs k := IntWalk.i64_in _ (by omega)
      have g2 : IntKind.i64.wrap (usedL cs ws k + gi ws k * gi cs k) = usedL cs ws k + gi ws k * gi cs k := IntWalk.i64_in _ (by omega)
      clear h hy hx p0 p1 u0 u1
      go_wp2
      go_quiet (fail)
      clear g1 g2
      go_wp2
      go_roundw
      case rel => exact ⟨k + 1, by omega, by go_num, rfl, hq.trans (Qt.one _ _)⟩
      case measure => simp [intOf]; omega
    · have He := Lib.hid (show k = ws.length by omega)
      go_wp2
      go_ret
      exact ⟨ret_int (by rw [He.out]), hq⟩
set_option maxRecDepth 100000 in
set_option maxHeartbeats 8000000 in
theorem FnPriceBoundWidths_walk (v : Value) (xs : List Int) (w : World) (h : Bytes w 0 w.heap.size v xs) :
    Calls Try.prog 11 #[v] w fun e w' => e = .returned (.bool true) ∧ Below w.heap.size w w' := by
  have hv : ∃ A c, v = .slice A xs.length c ∧ xs.length ≤ c ∧ c ≤ 2 ^ 63 - 1 := by obtain ⟨A, c, e, h1, h2, _⟩ := h; exact ⟨A, c, e, h1, by unfold maxLen at h2; omega⟩
  obtain ⟨A0, c0, rfl, hc0, hm0⟩ := hv
  by_cases hl : 1048576 < xs.length
  · have hl' : (1048576 : Int) < (xs.length : Int) := by omega
    go_enter Try.func11, Try.ntmps11
    go_wp2
    go_ret
    exact ⟨rfl, Below.refl _ _⟩
  have hl' : ¬ (1048576 : Int) < (xs.length : Int) := by omega
  go_enter Try.func11, Try.ntmps11
  go_wp2_with fail
  refine (DrawPriceBound_any _ xs w h).mono ?_
  rintro e w1 ⟨p, u1, u2, u3, ws, ns, vs, rfl, hi1, hi2, hi3, b1⟩
  obtain ⟨A1, c1, rfl, hc1, hm1⟩ := hi1.form
  obtain ⟨A2, c2, rfl, hc2, hm2⟩ := hi2.form
  obtain ⟨A3, c3, rfl, hc3, hm3⟩ := hi3.form
  have HB1 := Lib.hid b1
  have HW := Lib.hid (hi1.wide (Nat.zero_le _) (Nat.le_refl _))
  have HX := Lib.hid (hi2.wide (Nat.zero_le _) (Nat.le_refl _))
  have HV := Lib.hid (hi3.wide (Nat.zero_le _) (Nat.le_refl _))
  have hz1 := b1.size
  clear h hl hl' b1 hi1 hi2 hi3
  have hrng := pb_rng (W := p) (ws := ws) (ns := ns) (vs := vs)
  obtain ⟨R, hR⟩ : ∃ R, R = pbL p ws ns vs := ⟨_, rfl⟩
  have HR := Lib.hid hR
  rw [← hR] at hrng
  clear hR
  go_wp2_with fail
  refine (PriceBoundI_any _ _ _ _ _ _ p _ _ _ ws ns vs w1 HW.out (Nat.le_refl _) HX.out (Nat.le_refl _) HV.out (Nat.le_refl _)).mono ?_
  rw [← HR.out]
  rintro e w2 ⟨rfl, b⟩
  have HB2 := Lib.hid b
  have hz2 := b.size
  clear b
  go_wp2_with fail
  refine (PriceBoundS_any _ _ _ _ _ _ p _ _ _ ws ns vs w2 (HW.out.below HB2.out (Nat.le_refl _)) hz2 (HX.out.below HB2.out (Nat.le_refl _)) hz2 (HV.out.below HB2.out (Nat.le_refl _)) hz2).mono ?_
  rw [← HR.out]
  rintro e w3 ⟨rfl, b⟩
  have HB3 := Lib.hid (HB2.out.trans (b.mono hz2))
  have hz3 := b.size
  clear b
  have hRR : (R != R) = false := by simp
  by_cases h0 : R < 0
  · have hRR2 : (R == R) = true := by simp
    go_wp2_with fail
    refine (PriceBoundS_any _ _ _ _ _ _ p _ _ _ ws ns vs w3 (HW.out.below HB3.out (Nat.le_refl _)) (by omega) (HX.out.below HB3.out (Nat.le_refl _)) (by omega) (HV.out.below HB3.out (Nat.le_refl _)) (by omega)).mono ?_
    rw [← HR.out]
    rintro e w4 ⟨rfl, b⟩
    have HB4 := Lib.hid (HB3.out.trans (b.mono (by omega)))
    clear b
    go_wp2
    go_ret
    exact ⟨rfl, HB1.out.trans (HB4.out.mono hz1)⟩
  have hvw : vWan p ws ns = true ∧ vVal p ws vs = true := by
    rcases Classical.em (vWan p ws ns = true ∧ vVal p ws vs = true) with h | h
    · exact h
    · exfalso
      have := HR.out
      unfold pbL at this
      rw [if_neg h] at this
      omega
  have hwn := vWan_iff.1 hvw.1
  have hwd := vWid_iff.1 hwn.1
  have HN := Lib.hid (pb_widths hvw.1)
  have HG := Lib.hid (pb_greedy (W := p) (ws := ws) (ns := ns) (vs := ws))
  have hrn := pb_rng (W := p) (ws := ws) (ns := ns) (vs := ws)
  have hgl := gsL_len p ws ns
  have HNL := Lib.hid hwn.2.1
  have hn6 : ns.length ≤ 6 := by omega
  have hp60 : 1 ≤ p ∧ p ≤ 60 := ⟨hwd.1, hwd.2.1⟩
  have HRG := Lib.hid (show ∀ i, i < ns.length → 0 ≤ gi ns i ∧ gi ns i ≤ 1000 ∧ 0 ≤ gi ws i ∧ gi ws i ≤ 1000 from fun i hi => by
    have h1 := hwn.2.2.1 i hi
    have h2 := vWid_w hwn.1 (i := i) (by omega)
    omega)
  obtain ⟨n, hn⟩ : ∃ n, n = pbL p ws ns ws := ⟨_, rfl⟩
  obtain ⟨G, hG⟩ : ∃ G, G = gsL p ws ns := ⟨_, rfl⟩
  obtain ⟨S, hS⟩ : ∃ S, S = usedL ns ws ws.length := ⟨_, rfl⟩
  have HE1 := Lib.hid hn
  have HE2 := Lib.hid hG
  have HE3 := Lib.hid hS
  rw [← hn, ← hS] at HN
  rw [← hn, ← hG] at HG
  rw [← hn] at hrn
  rw [← hG] at hgl
  clear hn hG hS hvw hwn hwd
  have m0 : -60 ≤ n * p ∧ n * p ≤ 3600 := by
    have h1 : n * p ≤ 60 * p := Int.mul_le_mul_of_nonneg_right hrn.2 (by omega)
    have h2 : -1 * p ≤ n * p := Int.mul_le_mul_of_nonneg_right hrn.1 (by omega)
    omega
  have gm : IntKind.i64.wrap (n * p) = n * p := IntWalk.i64_in _ (by omega)
  go_wp2_with fail
  refine (PriceBoundI_any _ _ _ _ _ _ p _ _ _ ws ns ws w3 (HW.out.below HB3.out (Nat.le_refl _)) (by omega) (HX.out.below HB3.out (Nat.le_refl _)) (by omega) (HW.out.below HB3.out (Nat.le_refl _)) (by omega)).mono ?_
  rw [← HE1.out]
  rintro e w4 ⟨rfl, b⟩
  have HB4 := Lib.hid (HB3.out.trans (b.mono (by omega)))
  have hz4 := b.size
  clear b
  go_wp2_with fail
  refine (product_any _ _ _ _ _ _ ws ns w4 (HW.out.below HB4.out (Nat.le_refl _)) (HX.out.below HB4.out (Nat.le_refl _)) HNL.out (by omega) HRG.out).mono ?_
  rw [← HE3.out]
  rintro e w5 ⟨rfl, q⟩
  have HB5 := Lib.hid (HB4.out.trans (q.below w1.heap.size))
  have hz5 := (q.below w4.heap.size).size
  clear q
  have hSn : S ≤ n * p := HN.out
  have hSg : n * p ≥ S := hSn
  have hnG : n ≤ (G.length : Int) := HG.out
  obtain ⟨np, hnp⟩ : ∃ x, x = n * p := ⟨_, rfl⟩
  rw [← hnp] at hSn hSg gm ⊢
  clear hnp m0 hrn
  go_wp2_with fail
  refine (GreedySets_any _ _ _ _ _ _ p ws ns w5 (HW.out.below HB5.out (Nat.le_refl _)) (by omega) (HX.out.below HB5.out (Nat.le_refl _)) (by omega)).mono ?_
  rw [← HE2.out]
  rintro e w6 ⟨vo, rfl, oo, b⟩
  obtain ⟨A6, c6, rfl, hc6, hm6⟩ := oo.form
  have HB6 := Lib.hid (HB5.out.trans (b.mono (by omega)))
  clear oo b
  go_wp2
  go_ret
  exact ⟨rfl, HB1.out.trans (HB6.out.mono hz1)⟩
end Go.Proofs.Yteckjiaaikdghaa
