/-
  Lemmas and contracts of single functions of this program, used by the proofs of its laws: what each call returns and what becomes of memory. Conditions: the hypotheses of each theorem.
-/
import Derived.Test.YtodbgkflakfjpaaDrawT
import Derived.Maps.AppendAt
namespace Go.Proofs.Ytodbgkflakfjpaa
open Go.RowKit
attribute [local go_sem ↓] Go.wp_at_zero Go.wp_at_succ

/-- 'append(v, x)' of ints, and in which block the new slice lies -/
theorem wpList_appendI' {P : Program} {t e : TypeId} (S : SlT P t e (.int .i64 0) 1 8) {ops : Array Oper} {rest : List Oper} {o : Oper} {a : Act} {Q : Exit → Act → World → Prop} (w : World) (hgd : o.guard = none) (s x : Operand)
    (ho : o.op = .call { callee := .builtin .append, args := #[s, x], argTypes := #[t, t] }) (y : Int)
    (base : Nat) (v : Value) (xs : List Int) (hs : a.eval s = v) (hx : a.eval x = .slice (some ⟨w.heap.size, 0, none⟩) 1 1) (hown : OwnI w base e v xs) (hy : I64 y)
    (hn : xs.length ≤ 1099511627776) (hb : base ≤ w.heap.size)
    (h : ∀ v' w', OwnI w' base e v' (xs ++ [y]) → Grew base v v' w w' → (v'.ownBlock = v.ownBlock ∨ v'.ownBlock = some (w.heap.size + 1)) → wpList P ops Q rest (a.put o.dst v') w') :
    wpList P ops Q (o :: rest) a (w.alloc (.cells #[.int .i64 y] e)) := by
  obtain ⟨i, hi, hz1, hz2, hz3⟩ := info_parts S.hi
  refine wpList_append_own_at (w := w.alloc (.cells #[.int .i64 y] e)) hgd s x t ho base e i (.int .i64 0) 1 8 S.ht hi hz1 hz2 hz3 S.hz S.hs v xs.length (xs.map (.int .i64)) hs (hown.1.alloc _) ⟨w.heap.size, 0, none⟩ 1 1 [.int .i64 y] hx (by simp)
    (fun j u hu => by have := cells_at_new (w := w) (e := e) (cs := #[Value.int .i64 y]) (j := j) (u := u) (by simpa using hu); exact this) (by simp [Value.oneCell']) (by unfold maxLen; omega) (by omega) (by simp; omega) fun v' w' k1 k2 _ k4 => h v' w' ⟨?_, ?_⟩ ⟨?_, ?_, ?_⟩ (by simpa using k4)
  · simpa using k1
  · intro z hz
    rcases List.mem_append.1 hz with hz | hz
    · exact hown.2 z hz
    · rw [List.mem_singleton.1 hz]; exact hy
  · exact ((Below.refl base w).alloc hb _).grown k2 (by simp; omega) fun k hk => (hown.lt k hk).1
  · have := k2.size; simp at this; omega
  · intro k hk hne
    rw [k2.block k (by simp; omega) hne]
    exact Below.heap_alloc w _ k hk
theorem OwnI.grown {w w' : World} {base e g : Nat} {v : Value} {xs : List Int} (h : OwnI w base e v xs) (hg : w.grownBy w' (some g)) (hlt : g < base) : OwnI w' base e v xs :=
  h.kept (Kept.of_grown hg (Nat.le_refl _) (.inl hlt))
theorem OwnI.grew {w w' : World} {base b2 e : Nat} {u u' v : Value} {xs : List Int} (h : OwnI w base e v xs) (hg : Grew b2 u u' w w') (hne : ∀ g, v.ownBlock = some g → u.ownBlock = some g → False) : OwnI w' base e v xs :=
  h.keptBlock fun g hgv => hg.other g (h.lt g hgv).2 fun e => hne g hgv e.symm
theorem OwnT.grew {w w' : World} {base b2 e k : Nat} {u u' v : Value} {xs : List (List Int)} (h : OwnT w base e k v xs) (hg : Grew b2 u u' w w') (hne : ∀ g, v.ownBlock = some g → u.ownBlock = some g → False) : OwnT w' base e k v xs :=
  h.keptBlock fun g hgv => hg.other g (h.lt g hgv).2 fun e => hne g hgv e.symm
theorem Bytes.wide {w : World} {lo hi lo' hi' : Nat} {v : Value} {xs : List Int} (h : Bytes w lo hi v xs) (hl : lo' ≤ lo) (hh : hi ≤ hi') : Bytes w lo' hi' v xs := by
  obtain ⟨A, c, h1, h2, h3, h4, h5⟩ := h
  exact ⟨A, c, h1, h2, h3, h4.wide hl hh, h5⟩
theorem grown_drew {w x : World} {r : Option Nat} (h : w.drew.grownBy x r) : w.grownBy x r := ⟨h.os, h.tape, h.output, h.size, h.block⟩
theorem i64_4 {a b c d : Int} (ha : I64 a) (hb : I64 b) (hc : I64 c) (hd : I64 d) : ∀ n ∈ [a, b, c, d], I64 n := fun n hn => by
  simp only [List.mem_cons, List.not_mem_nil, or_false] at hn
  rcases hn with rfl | rfl | rfl | rfl <;> assumption
theorem OwnI.setB {w : World} {base e : Nat} {v : Value} {xs : List Int} (h : OwnI w base e v xs) {p : Addr} (hp : p.block < base) (u : Value) : OwnI (w.setCell p u) base e v xs :=
  h.keptBlock fun g hg => by
    have := (h.lt g hg).1
    simp only [World.setCell, Array.getElem?_modify, if_neg (show ¬ p.block = g by omega)]
theorem max_one {W : Int} (h0 : 0 ≤ W) (h1 : W ≤ 1000) : 1 ≤ max W 1 ∧ max W 1 ≤ 1000 := by omega

set_option maxRecDepth 100000 in
set_option maxHeartbeats 2000000 in
theorem DrawSlitReel_any (v : Value) (xs : List Int) (w : World) (h : Bytes w 0 w.heap.size v xs) :
    Calls Try.prog 41 #[v] w fun e w' => ∃ (W L : Int) (u vw vc : Value) (ds : List (List Int)) (ws cs : List Int) (fr til : Int), e = .returned (.tuple #[.agg #[.int .i64 W, .int .i64 L, u], vw, vc, .int .i64 fr, .int .i64 til]) ∧ OwnT w' w.heap.size 68 5 u ds ∧ OwnI w' w.heap.size 3 vw ws ∧ OwnI w' w.heap.size 3 vc cs ∧ I64 fr ∧ I64 til ∧ Below w.heap.size w w' := by
  have Hs := Lib.hid (show ∃ w1, w1 = (w.alloc (.cells #[.int .i64 0, .int .i64 0, .slice none 0 0] 30)) ∧ Below w.heap.size w w1 ∧ w1.cell? ⟨w.heap.size, 0, none⟩ = some (.int .i64 0) ∧ w1.cell? ⟨w.heap.size, 1, none⟩ = some (.int .i64 0) ∧ w1.cell? ⟨w.heap.size, 2, none⟩ = some (.slice none 0 0) ∧ w1.frozen? ⟨w.heap.size, 0, none⟩ = false ∧ w1.frozen? ⟨w.heap.size, 1, none⟩ = false ∧ w1.frozen? ⟨w.heap.size, 2, none⟩ = false ∧ w.heap.size < w1.heap.size from by
    have hb : Below w.heap.size w (w.alloc (.cells #[.int .i64 0, .int .i64 0, .slice none 0 0] 30)) := (Below.refl _ _).alloc (Nat.le_refl _) _
    exact ⟨_, rfl, hb, by go_simp, by go_simp, by go_simp, by go_simp, by go_simp, by go_simp, by simp⟩)
  have hb1 : ∀ w1, Below w.heap.size w w1 → Bytes w1 0 w.heap.size v xs := fun w1 hb => h.kept (.of_below hb (Nat.le_refl _))
  have hv : ∃ A n c, v = .slice A n c := by obtain ⟨A, c, e, _⟩ := h; exact ⟨A, _, c, e⟩
  obtain ⟨A0, n0, c0, rfl⟩ := hv
  go_enter Try.func41, Try.ntmps41
  go_wp2_with fail
  obtain ⟨w1, hw1, hb0, c00, c01, c02, f00, f01, f02, hz⟩ := Hs.out
  have HZ := Lib.hid (show w1.heap.size = w.heap.size + 1 by rw [hw1]; simp)
  rw [← hw1]
  clear hw1 Hs
  have hby := hb1 w1 hb0
  clear hb1 h
  refine (newReader_any _ xs w1 (Bytes.wide hby (Nat.le_refl _) (by omega))).mono ?_
  rintro e w2 ⟨rv, rfl, hr2, bx⟩
  replace c00 := keepB bx c00; replace c01 := keepB bx c01; replace c02 := keepB bx c02
  replace f00 := keepF bx (by first | (simp; done) | (simp; omega)) f00; replace f01 := keepF bx (by first | (simp; done) | (simp; omega)) f01; replace f02 := keepF bx (by first | (simp; done) | (simp; omega)) f02
  have hb2 := hb0.trans (bx.mono (by omega))
  have hz2 := hr2.lt
  clear hby bx hb0
  go_wp2_with fail
  refine (anyReel_any _ _ _ _ w2 hr2 (by omega)).mono ?_
  rintro e w3 ⟨W, L, u, ds, k3, rfl, hb, ho, hdl, hr3, hk3, bg1⟩
  obtain ⟨G, hG⟩ : ∃ G, G = w1.heap.size := ⟨_, rfl⟩
  rw [← hG] at hr3 bg1 hz2
  have hG1 : w.heap.size < G := by omega
  clear hr2 hz HZ hG
  replace c00 := keepW bg1 (by first | (simp; done) | (simp; omega)) c00; replace c01 := keepW bg1 (by first | (simp; done) | (simp; omega)) c01; replace c02 := keepW bg1 (by first | (simp; done) | (simp; omega)) c02
  replace f00 := keepWF bg1 (by first | (simp; done) | (simp; omega)) f00; replace f01 := keepWF bg1 (by first | (simp; done) | (simp; omega)) f01; replace f02 := keepWF bg1 (by first | (simp; done) | (simp; omega)) f02
  have hb3 := hb2.trans (below_of_grown bg1 (by omega) (by omega))
  have hz3 := bg1.size
  have hGz : G < w3.heap.size := by omega
  have hlo := ho.lt
  obtain ⟨A, c, rfl, hc, hm⟩ := ho.form
  clear hb2 bg1
  go_wp2_with fail
  obtain ⟨w4, hw1⟩ : ∃ w4, w4 = w3.alloc (.cells #[.int .i64 W, .int .i64 L, .slice A ds.length c] 30) := ⟨_, rfl⟩
  have x0 : w4.cell? ⟨w3.heap.size, 0, none⟩ = some (.int .i64 W) := by rw [hw1]; go_simp
  have x1 : w4.cell? ⟨w3.heap.size, 1, none⟩ = some (.int .i64 L) := by rw [hw1]; go_simp
  have x2 : w4.cell? ⟨w3.heap.size, 2, none⟩ = some (.slice A ds.length c) := by rw [hw1]; go_simp
  have bx : Below w3.heap.size w3 w4 := by rw [hw1]; exact (Below.refl _ _).alloc (Nat.le_refl _) _
  have zx : w3.heap.size < w4.heap.size := by rw [hw1]; simp
  have HZx := Lib.hid (show w4.heap.size = w3.heap.size + 1 by rw [hw1]; simp)
  have fx0 : w4.frozen? ⟨w3.heap.size, 0, none⟩ = false := by rw [hw1]; go_simp
  have fx1 : w4.frozen? ⟨w3.heap.size, 1, none⟩ = false := by rw [hw1]; go_simp
  have fx2 : w4.frozen? ⟨w3.heap.size, 2, none⟩ = false := by rw [hw1]; go_simp
  have Hx := Lib.hid (show w4.heap[w3.heap.size]? = some (.cells #[.int .i64 W, .int .i64 L, .slice A ds.length c] 30) by rw [hw1]; exact heap_alloc_new w3 _)
  rw [← hw1]
  clear hw1
  replace c00 := keepB bx c00; replace c01 := keepB bx c01; replace c02 := keepB bx c02
  replace f00 := keepF bx (by first | (simp; done) | (simp; omega)) f00; replace f01 := keepF bx (by first | (simp; done) | (simp; omega)) f01; replace f02 := keepF bx (by first | (simp; done) | (simp; omega)) f02
  have hr4 := hr3.below bx
  have ho4 := ho.kept (.of_below bx (Nat.le_refl _))
  have hb4 := hb3.trans (bx.mono (by omega))
  have hz4 := HZx.out
  clear bx hr3 ho hb3 zx HZx fx0 fx1 fx2 Hx
  obtain ⟨w6, hw6⟩ : ∃ w6, w6 = (w4.alloc (.cells #[] 3)).alloc (.cells #[] 3) := ⟨_, rfl⟩
  have HZ6 := Lib.hid (show w6.heap.size = w3.heap.size + 1 + 1 + 1 by rw [hw6]; simp [hz4])
  have b6 : Below w4.heap.size w4 w6 := by rw [hw6]; exact ((Below.refl _ _).alloc (Nat.le_refl _) _).alloc (by simp) _
  have ow : OwnI w6 (w3.heap.size + 1) 3 (.slice (some ⟨w3.heap.size + 1, 0, none⟩) 0 0) [] := by
    rw [hw6, ← hz4]; exact (OwnI.empty w4 w4.heap.size _ (Nat.le_refl _)).alloc _
  have oc : OwnI w6 (w3.heap.size + 1) 3 (.slice (some ⟨w3.heap.size + 1 + 1, 0, none⟩) 0 0) [] := by
    have := OwnI.empty (w4.alloc (.cells #[] 3)) (w3.heap.size + 1) 3 (by simp; omega)
    rw [hw6]; simpa [hz4] using this
  rw [← hw6]
  clear hw6
  have hr6 := hr4.below b6
  have hgr6 := grown_below b6 (some G)
  refine (one_lit _ _ _ _ [2, 3, 1] w6 _ _ _ hr6 (by omega) rfl rfl HZ6.out.symm (by simp) (by simp) (by unfold I64; simp)).mono ?_
  rintro e w7 ⟨n0, rfl, hn, hr7, bg1⟩
  have hn0 : 0 ≤ n0 ∧ n0 ≤ 3 := by simp only [List.mem_cons, List.not_mem_nil, or_false] at hn; omega
  obtain ⟨n0, rfl⟩ := Int.eq_ofNat_of_zero_le hn0.1
  have ow7 := ow.grown bg1 (by omega)
  have oc7 := oc.grown bg1 (by omega)
  have hgr7 := grown_trans hgr6 bg1
  have hz7 : w3.heap.size + 1 + 1 + 1 ≤ w7.heap.size := by have := bg1.size; have := HZ6.out; omega
  have Hz4 := Lib.hid hz4
  clear hn hr6 bg1 hgr6 b6 ow oc hz4
  go_wp2_with fail
  go_loopw [9, 10, 11, 12] (fun vw vc l i wr => ∃ (n k' : Nat) (ws cs : List Int) (left : Int), i = .int .i64 n ∧ l = .int .i64 left ∧ 0 ≤ left ∧ left ≤ 61 ∧ ws.length + n ≤ 3 ∧ cs.length + n ≤ 3 ∧ k' + 2 * n ≤ k3 + 10 ∧ Rdr wr G k' G rv ∧ OwnI wr (w3.heap.size + 1) 3 vw ws ∧ OwnI wr (w3.heap.size + 1) 3 vc cs ∧ Hid (∀ g, vw.ownBlock = some g → vc.ownBlock = some g → False) ∧ w4.grownBy wr (some G) ∧ w3.heap.size + 1 + 1 + 1 ≤ wr.heap.size) (fun _ _ _ i _ => (intOf i).toNat)
  case atStart => exact ⟨n0, _, [], [], W, rfl, rfl, by omega, by omega, by simp; omega, by simp; omega, by omega, hr7, ow7, oc7, fun g a b => by have a1 : some (w3.heap.size + 1) = some g := a; have b1 : some (w3.heap.size + 1 + 1) = some g := b; injection a1 with a1; injection b1 with b1; omega, hgr7, hz7⟩
  case round =>
    clear hr7 ow7 oc7 hgr7 hz7 HZ6
    obtain ⟨n, k', ws, cs, left, rfl, rfl, hl0, hl1, hwn, hcn, hkk, hr, ow, oc, HD, hgr, hzr⟩ := hrel
    have hx0 := keepW hgr (a := ⟨w3.heap.size, 0, none⟩) ⟨by have := Hz4.out; show w3.heap.size < _; omega, by show ¬ w3.heap.size = G; omega⟩ x0
    by_cases hlt : 0 < n
    · obtain ⟨n1, rfl⟩ : ∃ n1, n = n1 + 1 := ⟨n - 1, by omega⟩
      have hltI : (0 : Int) < (n1 : Int) + 1 := by omega
      go_wp2_with fail
      refine (pick_any _ _ _ _ (max W 1) wr hr (by omega) (by omega)).mono ?_
      rintro e wa ⟨y, rfl, hy, hra, bo1⟩
      have hy1 := hy.rng (m := 1000) (by omega) (by omega)
      have owa := ow.kept (bo1.kept (.inr (by omega)))
      have oca := oc.kept (bo1.kept (.inr (by omega)))
      have hgra := grown_trans hgr (grown_only bo1)
      have hza := bo1.size
      have hza2 : w3.heap.size + 1 + 1 + 1 ≤ wa.heap.size := by omega
      have Hplc := Lib.hid (placeIn_any _ _ _ ws (1 + y) wa owa.ints)
      obtain ⟨q, hq⟩ : ∃ q, q = plc ws (1 + y) := ⟨_, rfl⟩
      rw [← hq] at Hplc
      clear hq hy hr ow oc hgr bo1 hza hx0
      go_wp2_with fail
      refine Hplc.out.mono ?_
      rintro e wa2 ⟨rfl, rfl⟩
      by_cases hqn : q < 0
      · have hd0 : 0 ≤ max left 0 / (1 + y) := Int.ediv_nonneg (by omega) (by omega)
        have hd1 : max left 0 / (1 + y) ≤ 61 := Int.le_trans (Int.ediv_le_self _ (by omega)) (by omega)
        go_wp2_with fail
        refine (pick_any _ _ _ _ (max left 0 / (1 + y) + 1) wa hra (by omega) (by omega)).mono ?_
        rintro e wb ⟨z, rfl, hz, hrb, bo1⟩
        have hz1 : 0 ≤ z ∧ z ≤ max left 0 / (1 + y) := by unfold PickOk at hz; omega
        have hm0 : 0 ≤ z * (1 + y) := Int.mul_nonneg hz1.1 (by omega)
        have hm1 : z * (1 + y) ≤ left := by
          have h1 : z * (1 + y) ≤ (max left 0 / (1 + y)) * (1 + y) := Int.mul_le_mul_of_nonneg_right hz1.2 (by omega)
          have h2 := Int.ediv_mul_le (max left 0) (show (1 + y) ≠ 0 by omega)
          omega
        have owb := owa.kept (bo1.kept (.inr (by omega)))
        have ocb := oca.kept (bo1.kept (.inr (by omega)))
        have hgrb := grown_trans hgra (grown_only bo1)
        have hzb : w3.heap.size + 1 + 1 + 1 ≤ wb.heap.size := by have := bo1.size; omega
        have Oc := Lib.hid ocb
        have hz3 : z ≤ 61 := by omega
        clear hz hra owa oca hgra bo1 hza2 hd0 hd1 Hplc ocb
        go_wp2_with (first | (at_builtin; refine wpList_appendI' SlI _ rfl (.tmp 48) (.tmp 50) rfl _ (w3.heap.size + 1) _ _ rfl rfl owb ⟨by omega, by omega⟩ (by omega) (by omega) ?_; intro v1 wc ow1 hg1 hb1; have oc1 := Oc.out.grew hg1 (fun g a b => HD.out g b a); have HD1 := Lib.hid (show ∀ g, v1.ownBlock = some g → u10.ownBlock = some g → False from fun g a b => by rcases hb1 with h1 | h1; exact HD.out g (h1 ▸ a) b; (rw [h1] at a; injection a with a; have := (Oc.out.lt g b).2; omega)); have hzc := hg1.size; clear hb1) | (at_builtin; refine wpList_appendI' SlI _ rfl (.tmp 52) (.tmp 54) rfl _ (w3.heap.size + 1) _ _ rfl rfl oc1 ⟨by omega, by omega⟩ (by omega) (by omega) ?_; intro v2 wd oc2 hg2 hb2; have ow2 := ow1.grew hg2 (fun g a b => HD1.out g a b); have HD2 := Lib.hid (show ∀ g, v1.ownBlock = some g → v2.ownBlock = some g → False from fun g a b => by rcases hb2 with h1 | h1; exact HD1.out g a (h1 ▸ b); (rw [h1] at b; injection b with b; have := (ow1.lt g a).2; omega)); have hzd := hg2.size; clear hb2))
        go_roundw
        case rel => exact ⟨n1, _, _, _, left - z * (1 + y), by go_num, rfl, by omega, by omega, by rw [List.length_append]; simp; omega, by rw [List.length_append]; simp; omega, by omega, (hrb.grew hg1 (by omega)).grew hg2 (by omega), ow2, oc2, HD2.out, grown_then (grown_then hgrb hg1.below (by have := Hz4.out; omega)) hg2.below (by have := Hz4.out; omega), by omega⟩
        case measure => simp [intOf]
      · go_wp2
        go_roundw
        case rel => exact ⟨n1, _, ws, cs, left, by go_num, rfl, by omega, by omega, by omega, by omega, by omega, hra, owa, oca, HD.out, hgra, hza2⟩
        case measure => simp [intOf]
    · obtain rfl : n = 0 := by omega
      have hw4 : w3.heap.size < w4.heap.size := by have := Hz4.out; omega
      have hx1 := keepW hgr (a := ⟨w3.heap.size, 1, none⟩) ⟨hw4, by show ¬ w3.heap.size = G; omega⟩ x1
      have hx2 := keepW hgr (a := ⟨w3.heap.size, 2, none⟩) ⟨hw4, by show ¬ w3.heap.size = G; omega⟩ x2
      have d0 := keepW hgr (a := ⟨w.heap.size, 0, none⟩) ⟨by show w.heap.size < _; omega, by show ¬ w.heap.size = G; omega⟩ c00
      have d1 := keepW hgr (a := ⟨w.heap.size, 1, none⟩) ⟨by show w.heap.size < _; omega, by show ¬ w.heap.size = G; omega⟩ c01
      have d2 := keepW hgr (a := ⟨w.heap.size, 2, none⟩) ⟨by show w.heap.size < _; omega, by show ¬ w.heap.size = G; omega⟩ c02
      have k0 := keepWF hgr (a := ⟨w.heap.size, 0, none⟩) ⟨by show w.heap.size < _; omega, by show ¬ w.heap.size = G; omega⟩ f00
      have k1 := keepWF hgr (a := ⟨w.heap.size, 1, none⟩) ⟨by show w.heap.size < _; omega, by show ¬ w.heap.size = G; omega⟩ f01
      have k2 := keepWF hgr (a := ⟨w.heap.size, 2, none⟩) ⟨by show w.heap.size < _; omega, by show ¬ w.heap.size = G; omega⟩ f02
      have hou : OwnT wr w2.heap.size 68 5 (.slice A ds.length c) ds := ho4.keptBlock fun g hg => hgr.block g (by have := (hlo g hg).2; omega) (fun e => by injection e with e; have := (hlo g hg).1; omega)
      have hbw := hb4.trans (below_of_grown hgr (by omega) (by omega))
      clear c00 c01 c02 f00 f01 f02 x0 x1 x2 ho4 hb4 hgr HD
      go_wp2_with fail
      refine (pick_any _ _ _ _ (max L 1) wr hr (by omega) (by omega)).mono ?_
      rintro e wb ⟨y, rfl, hy, hrb, bo1⟩
      have hy1 := hy.rng (m := 1000) (by omega) (by omega)
      replace hx0 := keepO bo1 (by first | (simp; done) | (simp; omega)) hx0; replace hx1 := keepO bo1 (by first | (simp; done) | (simp; omega)) hx1; replace hx2 := keepO bo1 (by first | (simp; done) | (simp; omega)) hx2; replace d0 := keepO bo1 (by first | (simp; done) | (simp; omega)) d0; replace d1 := keepO bo1 (by first | (simp; done) | (simp; omega)) d1; replace d2 := keepO bo1 (by first | (simp; done) | (simp; omega)) d2
      replace k0 := keepOF bo1 (by first | (simp; done) | (simp; omega)) k0; replace k1 := keepOF bo1 (by first | (simp; done) | (simp; omega)) k1; replace k2 := keepOF bo1 (by first | (simp; done) | (simp; omega)) k2
      have owb := ow.kept (bo1.kept (.inr (by omega)))
      have ocb := oc.kept (bo1.kept (.inr (by omega)))
      have hub := hou.kept (bo1.kept (.inr (by omega)))
      have hbb := hbw.trans (bo1.below.mono (by omega))
      have hzb : w3.heap.size + 1 + 1 + 1 ≤ wb.heap.size := by have := bo1.size; omega
      have hrd := hrb.drew
      have Ow := Lib.hid owb
      have Oc := Lib.hid ocb
      obtain ⟨A7, c7, rfl, _⟩ := owb.form
      obtain ⟨A8, c8, rfl, _⟩ := ocb.form
      clear hy hr ow oc hou hbw bo1 owb ocb hrb
      go_wp2_with fail
      have Hmx := Lib.hid (show ∀ mx, max (L - y) 0 = mx → (0 ≤ mx ∧ mx ≤ 1000) ∧ ∀ x ∈ [1, 5, mx, 0], I64 x from fun mx h => ⟨by omega, i64_4 ⟨by omega, by omega⟩ ⟨by omega, by omega⟩ ⟨by omega, by omega⟩ ⟨by omega, by omega⟩⟩)
      have hk1 : k' + 1 ≤ 1000000 := by omega
      have hne1 : ¬ w3.heap.size = w.heap.size := by omega
      have hne2 : ¬ w.heap.size = w3.heap.size := by omega
      have g1 : IntKind.i64.wrap (L - y) = L - y := IntWalk.i64_in _ (by omega)
      refine wp_region_held_drew (S := fun w' => w'.cell? ⟨w3.heap.size, 0, none⟩ = some (.int .i64 W) ∧ w'.cell? ⟨w3.heap.size, 1, none⟩ = some (.int .i64 L) ∧ w'.cell? ⟨w3.heap.size, 2, none⟩ = some (.slice A ds.length c)) (by kernel_rfl) ?_ (fun hHeld => ?_)
      · (first | (try dsimp only); go_keep | (go_split_ands; refine ⟨?_, ?_, ?_⟩ <;> first | exact keepB bx5 (by assumption) | exact keepB bx4 (by assumption) | exact keepB bx3 (by assumption) | exact keepB bx2 (by assumption) | exact keepB bx1 (by assumption) | exact keepO bo5 (by first | (simp; done) | (simp; omega)) (by assumption) | exact keepO bo4 (by first | (simp; done) | (simp; omega)) (by assumption) | exact keepO bo3 (by first | (simp; done) | (simp; omega)) (by assumption) | exact keepO bo2 (by first | (simp; done) | (simp; omega)) (by assumption) | exact keepO bo1 (by first | (simp; done) | (simp; omega)) (by assumption) | exact keepW bg2 (by first | (simp; done) | (simp; omega)) (by assumption) | exact keepW bg1 (by first | (simp; done) | (simp; omega)) (by assumption) | assumption))
      refine wpAnyH_take (i := 0) (oi := ⟨some 66, _, _, _, _, _⟩) (v := _) rfl (by kernel_rfl) (by kernel_rfl) (by kernel_rfl) (fun _ _ _ h => h) (Or.inl ⟨by kernel_rfl, by intro w hSw; (try dsimp only at hSw); go_simp; try with_reducible rfl⟩) (by assumption) ?_
      simp only [Act.put, List.setIfInBounds_toArray, List.set_cons_zero, List.set_cons_succ]
      refine wpAnyH_take (i := 1) (oi := ⟨some 67, _, _, _, _, _⟩) (v := _) rfl (by kernel_rfl) (by kernel_rfl) (by kernel_rfl) (fun _ _ _ h => h) (Or.inl ⟨by kernel_rfl, by intro w hSw; (try dsimp only at hSw); go_simp; try with_reducible rfl⟩) (by assumption) ?_
      simp only [Act.put, List.setIfInBounds_toArray, List.set_cons_zero, List.set_cons_succ]
      refine wpAnyH_take (i := 2) (oi := ⟨some 68, _, _, _, _, _⟩) (v := _) rfl (by kernel_rfl) (by kernel_rfl) (by kernel_rfl) (fun _ _ _ h => h) (Or.inl ⟨by kernel_rfl, by intro w hSw; (try dsimp only at hSw); go_simp; try with_reducible rfl⟩) (by assumption) ?_
      simp only [Act.put, List.setIfInBounds_toArray, List.set_cons_zero, List.set_cons_succ]
      refine wpAnyH_take (i := 3) (oi := ⟨some 69, _, _, _, _, _⟩) (v := _) rfl (by kernel_rfl) (by kernel_rfl) (by kernel_rfl) (fun _ _ _ h => h) (Or.inl ⟨by kernel_rfl, by intro w hSw; (try dsimp only at hSw); go_simp; try with_reducible rfl⟩) (by assumption) ?_
      simp only [Act.put, List.setIfInBounds_toArray, List.set_cons_zero, List.set_cons_succ]
      refine wpAnyH_take (i := 4) (oi := ⟨some 70, _, _, _, _, _⟩) (v := _) rfl (by kernel_rfl) (by kernel_rfl) (by kernel_rfl) (fun _ _ _ h => h) (Or.inl ⟨by kernel_rfl, by intro w hSw; (try dsimp only at hSw); go_simp; try with_reducible rfl⟩) (by assumption) ?_
      simp only [Act.put, List.setIfInBounds_toArray, List.set_cons_zero, List.set_cons_succ]
      refine wpAnyH_take (i := 5) (oi := ⟨some 71, _, _, _, _, _⟩) (v := _) rfl (by kernel_rfl) (by kernel_rfl) (by kernel_rfl) (fun _ _ _ h => h) (Or.inl ⟨by kernel_rfl, by intro w hSw; (try dsimp only at hSw); go_simp; try with_reducible rfl⟩) (by assumption) ?_
      simp only [Act.put, List.setIfInBounds_toArray, List.set_cons_zero, List.set_cons_succ]
      refine wpAnyH_take (i := 6) (oi := ⟨some 72, _, _, _, _, _⟩) (v := _) rfl (by kernel_rfl) (by kernel_rfl) (by kernel_rfl) (fun _ _ _ h => h) (Or.inl ⟨by kernel_rfl, by intro w hSw; (try dsimp only at hSw); go_simp; try with_reducible rfl⟩) (by assumption) ?_
      simp only [Act.put, List.setIfInBounds_toArray, List.set_cons_zero, List.set_cons_succ]
      refine wpAnyH_take (i := 7) (oi := ⟨some 73, _, _, _, _, _⟩) (v := _) rfl (by kernel_rfl) (by kernel_rfl) (by kernel_rfl) (fun _ _ _ h => h) (Or.inl ⟨by kernel_rfl, by intro w hSw; (try dsimp only at hSw); go_simp; try with_reducible rfl⟩) (by assumption) ?_
      simp only [Act.put, List.setIfInBounds_toArray, List.set_cons_zero, List.set_cons_succ]
      refine wpAnyH_take (i := 8) (oi := ⟨some 74, _, _, _, _, _⟩) (v := _) rfl (by kernel_rfl) (by kernel_rfl) (by kernel_rfl) (fun _ _ _ h => h) (Or.inl ⟨by kernel_rfl, by intro w hSw; (try dsimp only at hSw); go_simp; try with_reducible rfl⟩) (by assumption) ?_
      simp only [Act.put, List.setIfInBounds_toArray, List.set_cons_zero, List.set_cons_succ]
      refine wpAnyH_take (i := 9) (oi := ⟨some 75, _, _, _, _, _⟩) (v := _) rfl (by kernel_rfl) (by kernel_rfl) (by kernel_rfl) (fun _ _ _ h => h) (Or.inl ⟨by kernel_rfl, by intro w hSw; (try dsimp only at hSw); go_simp; try with_reducible rfl⟩) (by assumption) ?_
      simp only [Act.put, List.setIfInBounds_toArray, List.set_cons_zero, List.set_cons_succ]
      refine wpAnyH_take (i := 10) (oi := ⟨some 76, _, _, _, _, _⟩) (v := _) rfl (by kernel_rfl) (by kernel_rfl) (by kernel_rfl) (fun _ _ _ h => h) (Or.inl ⟨by kernel_rfl, by intro w hSw; (try dsimp only at hSw); go_simp; try with_reducible rfl⟩) (by assumption) ?_
      simp only [Act.put, List.setIfInBounds_toArray, List.set_cons_zero, List.set_cons_succ]
      refine wpAnyH_ready (rs := [11]) (by kernel_rfl) (by simp) ?_
      refine AllReadyH.cons (o := ⟨some 77, _, _, _, _, _⟩) rfl (fun K hK => ?_) AllReadyH.nil
      go_simp
      refine hK.out _ _ ?_ (fun hHeld2 => ?_)
      · (first | (try dsimp only); go_keep | (go_split_ands; refine ⟨?_, ?_, ?_⟩ <;> first | exact keepB bx5 (by assumption) | exact keepB bx4 (by assumption) | exact keepB bx3 (by assumption) | exact keepB bx2 (by assumption) | exact keepB bx1 (by assumption) | exact keepO bo5 (by first | (simp; done) | (simp; omega)) (by assumption) | exact keepO bo4 (by first | (simp; done) | (simp; omega)) (by assumption) | exact keepO bo3 (by first | (simp; done) | (simp; omega)) (by assumption) | exact keepO bo2 (by first | (simp; done) | (simp; omega)) (by assumption) | exact keepO bo1 (by first | (simp; done) | (simp; omega)) (by assumption) | exact keepW bg2 (by first | (simp; done) | (simp; omega)) (by assumption) | exact keepW bg1 (by first | (simp; done) | (simp; omega)) (by assumption) | assumption))
      clear hK K hHeld
      have hHeld := hHeld2
      clear hHeld2
      try simp only [Act.put, List.setIfInBounds_toArray, List.set_cons_zero, List.set_cons_succ]
      refine wpAnyH_ready (rs := [12]) (by kernel_rfl) (by simp) ?_
      refine AllReadyH.cons (o := ⟨some 78, _, _, _, _, _⟩) rfl (fun K hK => ?_) AllReadyH.nil
      go_simp
      go_at_call 92
      rw [show (wb.alloc (.cells #[.int .i64 1, .int .i64 5, .int .i64 (max (L - y) 0), .int .i64 0] 3)).drew = wb.drew.alloc (.cells #[.int .i64 1, .int .i64 5, .int .i64 (max (L - y) 0), .int .i64 0] 3) from rfl]
      generalize hmx : max (L - y) 0 = mx
      have hmx2 := Hmx.out mx hmx
      clear hmx
      have hone := one_lit G (k' + 1) G rv [1, 5, mx, 0] wb.drew #[.int .i64 1, .int .i64 5, .int .i64 mx, .int .i64 0] 4 wb.heap.size hrd hk1 rfl rfl rfl (by simp) (by simp) hmx2.2
      refine hone.mono ?_
      rintro e wc ⟨z, rfl, hz, hrc, bg3⟩
      have hz1 : 0 ≤ z ∧ z ≤ 2000 := by simp only [List.mem_cons, List.not_mem_nil, or_false] at hz; omega
      have bg2 := grown_drew bg3
      have hzc := bg2.size
      have g2 : IntKind.i64.wrap (y + z) = y + z := IntWalk.i64_in _ (by omega)
      replace hx0 := keepW bg2 (by first | (simp; done) | (simp; omega)) hx0; replace hx1 := keepW bg2 (by first | (simp; done) | (simp; omega)) hx1; replace hx2 := keepW bg2 (by first | (simp; done) | (simp; omega)) hx2; replace d0 := keepW bg2 (by first | (simp; done) | (simp; omega)) d0; replace d1 := keepW bg2 (by first | (simp; done) | (simp; omega)) d1; replace d2 := keepW bg2 (by first | (simp; done) | (simp; omega)) d2
      replace k0 := keepWF bg2 (by first | (simp; done) | (simp; omega)) k0; replace k1 := keepWF bg2 (by first | (simp; done) | (simp; omega)) k1; replace k2 := keepWF bg2 (by first | (simp; done) | (simp; omega)) k2
      go_wp2_with fail
      refine hK.out _ _ ?_ (fun hHeld2 => ?_)
      · (first | (try dsimp only); go_keep | (go_split_ands; refine ⟨?_, ?_, ?_⟩ <;> first | exact keepB bx5 (by assumption) | exact keepB bx4 (by assumption) | exact keepB bx3 (by assumption) | exact keepB bx2 (by assumption) | exact keepB bx1 (by assumption) | exact keepO bo5 (by first | (simp; done) | (simp; omega)) (by assumption) | exact keepO bo4 (by first | (simp; done) | (simp; omega)) (by assumption) | exact keepO bo3 (by first | (simp; done) | (simp; omega)) (by assumption) | exact keepO bo2 (by first | (simp; done) | (simp; omega)) (by assumption) | exact keepO bo1 (by first | (simp; done) | (simp; omega)) (by assumption) | exact keepW bg2 (by first | (simp; done) | (simp; omega)) (by assumption) | exact keepW bg1 (by first | (simp; done) | (simp; omega)) (by assumption) | assumption))
      clear hK K hHeld
      have hHeld := hHeld2
      clear hHeld2
      try simp only [Act.put, List.setIfInBounds_toArray, List.set_cons_zero, List.set_cons_succ]
      refine wpAnyH_take (i := 13) (oi := ⟨some 79, _, _, _, _, _⟩) (v := _) rfl (by kernel_rfl) (by kernel_rfl) (by kernel_rfl) (fun _ _ _ h => h) (Or.inl ⟨by kernel_rfl, by intro w hSw; (try dsimp only at hSw); go_simp; try with_reducible rfl⟩) (by assumption) ?_
      simp only [Act.put, List.setIfInBounds_toArray, List.set_cons_zero, List.set_cons_succ]
      refine wpAnyH_ready (rs := [14]) (by kernel_rfl) (by simp) ?_
      refine AllReadyH.cons (o := ⟨none, _, _, _, _, _⟩) rfl (fun K hK => ?_) AllReadyH.nil
      go_simp
      refine hK.out _ _ ?_ (fun hHeld2 => ?_)
      · (first | (try dsimp only); go_keep | (go_split_ands; refine ⟨?_, ?_, ?_⟩ <;> first | exact keepB bx5 (by assumption) | exact keepB bx4 (by assumption) | exact keepB bx3 (by assumption) | exact keepB bx2 (by assumption) | exact keepB bx1 (by assumption) | exact keepO bo5 (by first | (simp; done) | (simp; omega)) (by assumption) | exact keepO bo4 (by first | (simp; done) | (simp; omega)) (by assumption) | exact keepO bo3 (by first | (simp; done) | (simp; omega)) (by assumption) | exact keepO bo2 (by first | (simp; done) | (simp; omega)) (by assumption) | exact keepO bo1 (by first | (simp; done) | (simp; omega)) (by assumption) | exact keepW bg2 (by first | (simp; done) | (simp; omega)) (by assumption) | exact keepW bg1 (by first | (simp; done) | (simp; omega)) (by assumption) | assumption))
      clear hK K hHeld
      have hHeld := hHeld2
      clear hHeld2
      try simp only [Act.put, List.setIfInBounds_toArray, List.set_cons_zero, List.set_cons_succ]
      refine wpAnyH_take (i := 15) (oi := ⟨some 3, _, _, _, _, _⟩) (v := _) rfl (by kernel_rfl) (by kernel_rfl) (by kernel_rfl) (fun _ _ _ h => h) (Or.inl ⟨by kernel_rfl, by intro w hSw; (try dsimp only at hSw); go_simp; try with_reducible rfl⟩) (by assumption) ?_
      simp only [Act.put, List.setIfInBounds_toArray, List.set_cons_zero, List.set_cons_succ]
      refine wpAnyH_take (i := 16) (oi := ⟨some 4, _, _, _, _, _⟩) (v := _) rfl (by kernel_rfl) (by kernel_rfl) (by kernel_rfl) (fun _ _ _ h => h) (Or.inl ⟨by kernel_rfl, by intro w hSw; (try dsimp only at hSw); go_simp; try with_reducible rfl⟩) (by assumption) ?_
      simp only [Act.put, List.setIfInBounds_toArray, List.set_cons_zero, List.set_cons_succ]
      refine wpAnyH_take (i := 17) (oi := ⟨some 5, _, _, _, _, _⟩) (v := _) rfl (by kernel_rfl) (by kernel_rfl) (by kernel_rfl) (fun _ _ _ h => h) (Or.inl ⟨by kernel_rfl, by intro w hSw; (try dsimp only at hSw); go_simp; try with_reducible rfl⟩) (by assumption) ?_
      simp only [Act.put, List.setIfInBounds_toArray, List.set_cons_zero, List.set_cons_succ]
      refine wpAnyH_take (i := 18) (oi := ⟨some 6, _, _, _, _, _⟩) (v := _) rfl (by kernel_rfl) (by kernel_rfl) (by kernel_rfl) (fun _ _ _ h => h) (Or.inl ⟨by kernel_rfl, by intro w hSw; (try dsimp only at hSw); go_simp; try with_reducible rfl⟩) (by assumption) ?_
      simp only [Act.put, List.setIfInBounds_toArray, List.set_cons_zero, List.set_cons_succ]
      refine wpAnyH_done (by kernel_rfl) ?_ _
      clear g1 g2 hz hrd bg3 hone hne1 hne2
      have hbc := hbb.trans (below_of_grown bg2 (B := w.heap.size) (by omega) (by omega))
      go_wp2
      refine bodyPost_ret (v := .tuple #[.agg #[.int .i64 W, .int .i64 L, .slice A ds.length c], .slice A7 ws.length c7, .slice A8 cs.length c8, .int .i64 y, .int .i64 (y + z)]) (by simp [results, Try.results41, go_sem, *]) rfl ⟨W, L, _, _, _, ds, ws, cs, y, y + z, rfl, ?_, ?_, ?_, ⟨by omega, by omega⟩, ⟨by omega, by omega⟩, ((hbc.setCell (Nat.le_refl _) _).setCell (Nat.le_refl _) _).setCell (Nat.le_refl _) _⟩
      · exact (((hub.grown bg2 (by omega)).setBelow (by show w.heap.size < _; omega) _).setBelow (by show w.heap.size < _; omega) _).setBelow (by show w.heap.size < _; omega) _ |>.base (by omega)
      · exact (((Ow.out.grown bg2 (by omega)).setB (by show w.heap.size < _; omega) _).setB (by show w.heap.size < _; omega) _).setB (by show w.heap.size < _; omega) _ |>.base (by omega)
      · exact (((Oc.out.grown bg2 (by omega)).setB (by show w.heap.size < _; omega) _).setB (by show w.heap.size < _; omega) _).setB (by show w.heap.size < _; omega) _ |>.base (by omega)
end Go.Proofs.Ytodbgkflakfjpaa
