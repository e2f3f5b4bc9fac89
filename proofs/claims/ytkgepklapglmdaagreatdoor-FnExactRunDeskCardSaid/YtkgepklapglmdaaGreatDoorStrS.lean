/-
  Lemmas and contracts of single functions of this program, used by the proofs of its laws: what each call returns and what becomes of memory. Conditions: the hypotheses of each theorem.
-/
import Derived.Test.YtkgepklapglmdaaGreatDoorTxt1
namespace Go.Proofs.YtkgepklapglmdaaGreatDoor
open Go.RowKit
attribute [local go_sem ↓] Go.wp_at_zero Go.wp_at_succ

theorem drop_gs {xs : List (List UInt8)} {k : Nat} (h : k < xs.length) : xs.drop k = gs xs k :: xs.drop (k + 1) := by rw [gs_eq h]; exact List.drop_eq_getElem_cons h
theorem take_gs {xs : List (List UInt8)} {k : Nat} (h : k < xs.length) : xs.take (k + 1) = xs.take k ++ [gs xs k] := by rw [gs_eq h]; exact List.take_succ_eq_append_getElem h
theorem take_set_succS (xs ys : List (List UInt8)) (k : Nat) (h : k < xs.length) (hy : k < ys.length) : (xs.take k ++ ys.drop k).set k (gs xs k) = xs.take (k + 1) ++ ys.drop (k + 1) := by
  rw [take_gs h, List.set_append_right _ _ (by rw [List.length_take]; omega), List.length_take, Nat.min_eq_left (by omega), Nat.sub_self, drop_gs hy, List.set_cons_zero, List.append_assoc]; rfl
theorem OwnS.setS {w : World} {base e g n c : Nat} {xs : List (List UInt8)} (h : OwnS w base e (.slice (some ⟨g, 0, none⟩) n c) xs) (i : Nat) (x : List UInt8) : OwnS (w.setCell ⟨g, i, none⟩ (.string (TB x))) base e (.slice (some ⟨g, 0, none⟩) n c) (xs.set i x) := by
  have hn : n = xs.length := by
    obtain ⟨A, c', e1, _⟩ := h.form
    injection e1
  subst hn
  have h0 : w.ownsRow base e 1 (.slice (some ⟨g, 0, none⟩) xs.length c) xs.length (sV xs) := h
  have h2 := (h0.stored i (.string (TB x))).1
  unfold OwnS
  unfold sV at h2 ⊢
  rw [List.map_set]
  simpa using h2
theorem OwnS.at_ {w : World} {base e n c : Nat} {A : Option Addr} {xs : List (List UInt8)} (h : OwnS w base e (.slice A n c) xs) {i : Nat} (hi : i < xs.length) :
    ∃ g, A = some ⟨g, 0, none⟩ ∧ base ≤ g ∧ g < w.heap.size ∧ w.cell? ⟨g, i, none⟩ = some (.string (TB (gs xs i))) ∧ w.frozen? ⟨g, i, none⟩ = false ∧
      ∀ x, OwnS (w.setCell ⟨g, i, none⟩ (.string (TB x))) base e (.slice A n c) (xs.set i x) := by
  have hg : ∃ g, A = some ⟨g, 0, none⟩ := by
    rcases h.2 with ⟨e, h0⟩ | ⟨g, cap, cur, e, _⟩
    · omega
    · injection e with e1; exact ⟨g, e1⟩
  obtain ⟨g, rfl⟩ := hg
  have hn : n = xs.length := by
    obtain ⟨A, c', e1, _⟩ := h.form
    injection e1
  subst hn
  have hc := h.strs.cell' hi
  rw [Nat.zero_add] at hc
  have h0 : w.ownsRow base e 1 (.slice (some ⟨g, 0, none⟩) xs.length c) xs.length (sV xs) := h
  exact ⟨g, rfl, (h.lt g rfl).1, (h.lt g rfl).2, hc, h0.frozenAt i, fun x => h.setS i x⟩
theorem OwnS.made {w : World} {base e n c : Nat} {A : Option Addr} (h : w.ownsRow base e 1 (.slice A n c) n (madeCells (Value.cells (.string .empty)) (n * 1)).toList) : OwnS w base e (.slice A n c) (List.replicate n []) := by
  unfold OwnS sV
  rw [List.length_replicate, List.map_replicate]
  have e1 : (madeCells (Value.cells (.string .empty)) (n * 1)).toList = List.replicate n (.string .empty) := by
    rw [Nat.mul_one]; exact toList_madeCells_one _ _
  rw [e1] at h
  exact h
theorem wpList_makeS {P : Program} {t e : TypeId} (S : SlT P t e (.string .empty) 1 16) {ops : Array Oper} {rest : List Oper} {o : Oper} {a : Act} {Q : Exit → Act → World → Prop} (w : World) (hgd : o.guard = none) (l c : Operand)
    (ho : o.op = Op.makeSlice t l c) (base n : Nat) (hl : a.eval l = .int .i64 (n : Int)) (hc : a.eval c = .int .i64 (n : Int)) (hn : n ≤ 1099511627776) (hb : base ≤ w.heap.size)
    (h : ∀ w', OwnS w' base e (.slice (some ⟨w.heap.size, 0, none⟩) n n) (List.replicate n []) → Below w.heap.size w w' → w.heap.size < w'.heap.size → wpList P ops Q rest (a.put o.dst (.slice (some ⟨w.heap.size, 0, none⟩) n n)) w') :
    wpList P ops Q (o :: rest) a w := by
  obtain ⟨i, hi, hz1, hz2, hz3⟩ := info_parts S.hi
  exact wpList_make_full w hgd l c t ho base e i _ 1 S.ht hi hz1 hz2 .i64 .i64 _ _ n hl hc rfl rfl (by rw [hz3]; omega) (by unfold maxLen; omega) hb fun w' k1 k2 =>
    h w' (OwnS.made k1) ((Below.refl _ _).grown k2 (Nat.le_refl _) fun k hk => by cases hk) (k1.lt _ rfl).2
set_option maxRecDepth 100000 in
set_option maxHeartbeats 1000000 in
theorem toStringS_any (lo hi : Nat) (v : Value) (xs : List (List UInt8)) (w : World) (h : Strs w lo hi v xs) (hhi : hi ≤ w.heap.size) (hl : xs.length ≤ 1099511627776) :
    Calls Tryz.prog 17 #[v] w fun e w' => ∃ v', e = .returned v' ∧ OwnS w' w.heap.size 9 v' xs ∧ Below w.heap.size w w' := by
  obtain ⟨A, c, rfl, hc, hm⟩ := h.form
  go_enter Tryz.func17, Tryz.ntmps17
  go_wp2_with (at_make; refine wpList_makeS SlSt _ rfl _ _ rfl w.heap.size xs.length rfl rfl hl (Nat.le_refl _) ?_; intro w1 ho hb1 hs1)
  go_loopw [4] (fun i wr => ∃ k : Nat, k ≤ xs.length ∧ i = .int .i64 k ∧ OwnS wr w.heap.size 9 (.slice (some ⟨w.heap.size, 0, none⟩) xs.length xs.length) (xs.take k ++ (List.replicate xs.length []).drop k) ∧ Below w.heap.size w wr) (fun i _ => xs.length - (intOf i).toNat)
  case atStart => exact ⟨0, by omega, rfl, by simpa using ho, hb1⟩
  case round =>
    obtain ⟨k, hk, rfl, hown, hb⟩ := hrel
    by_cases hlt : k < xs.length
    · obtain ⟨b, o, rfl, hbl, hbh, hcell⟩ := (h.below hb hhi).cell hlt
      obtain ⟨g, hg, _, _, hc1, hf1, hst⟩ := hown.at_ (i := k) (by simp; omega)
      simp only [Option.some.injEq, Addr.mk.injEq, and_true] at hg
      subst hg
      have Hst := Lib.hid (hst (gs xs k))
      obtain ⟨z, hz⟩ : ∃ z, z = TB (gs xs k) := ⟨_, rfl⟩
      rw [← hz] at hcell Hst
      clear hst hz
      go_wp2
      go_roundw
      case rel => exact ⟨k + 1, by omega, by go_num, by rw [← take_set_succS xs _ k hlt (by simp; omega)]; exact Hst.out, hb.setCell (Nat.le_refl _) _⟩
      case measure => simp [intOf]; omega
    · have e : k = xs.length := by omega
      have He := Lib.hid e
      clear e
      go_wp2
      go_ret
      exact ⟨_, rfl, by simpa [He.out] using hown, hb⟩
set_option maxRecDepth 100000 in
set_option maxHeartbeats 1000000 in
theorem eqStringS_same (l1 h1 l2 h2 : Nat) (v u : Value) (xs : List (List UInt8)) (w : World) (h : Strs w l1 h1 v xs) (hh1 : h1 ≤ w.heap.size) (hy : Strs w l2 h2 u xs) (hh2 : h2 ≤ w.heap.size) :
    Calls Tryz.prog 19 #[v, u] w fun e w' => e = .returned (.bool true) ∧ Below w.heap.size w w' := by
  obtain ⟨A, c, rfl, hc, hm⟩ := h.form
  obtain ⟨A2, c2, rfl, hc2, hm2⟩ := hy.form
  have HS := Lib.hid h
  have HY := Lib.hid hy
  clear h hy
  go_enter Tryz.func19, Tryz.ntmps19
  go_wp2
  go_loopw [5] (fun i wr => ∃ k : Nat, k ≤ xs.length ∧ i = .int .i64 k ∧ Hid (Below w.heap.size w wr)) (fun i _ => xs.length - (intOf i).toNat)
  case atStart => exact ⟨0, by omega, rfl, Below.refl _ _⟩
  case round =>
    obtain ⟨k, hk, rfl, HB⟩ := hrel
    obtain ⟨wo, rfl⟩ : ∃ wo : World, wo = wr := ⟨_, rfl⟩
    by_cases hlt : k < xs.length
    rotate_left
    · have hnk : ¬ (k : Int) < (xs.length : Int) := by omega
      go_wp2
      go_ret
      exact ⟨rfl, HB.out⟩
    have k0 : (0 : Int) ≤ (k : Int) := by omega
    have k1 : (k : Int) < (xs.length : Int) := by omega
    obtain ⟨b, o, hA, _, _, hcell⟩ := (HS.out.below HB.out hh1).cell hlt
    obtain ⟨b2, o2, hA2, _, _, hcell2⟩ := (HY.out.below HB.out hh2).cell hlt
    subst hA
    subst hA2
    obtain ⟨z, hz⟩ : ∃ z, z = TB (gs xs k) := ⟨_, rfl⟩
    rw [← hz] at hcell hcell2
    have hzz : (z.toList == z.toList) = true := by simp
    have hzn : (z.toList != z.toList) = false := by simp
    clear hz
    go_wp2
    go_region_held3 (fun w' => w'.cell? ⟨b, o + k, none⟩ = some (.string z) ∧ w'.cell? ⟨b2, o2 + k, none⟩ = some (.string z)) (first | go_keep | (go_split_ands; refine ⟨?_, ?_⟩ <;> first | exact keepB bx1 (by assumption))) (fail)
    have HBN := Lib.hid (HB.out.trans ((Qt.one wo 1).below _ |>.mono HB.out.size))
    go_wp2
    go_roundw
    case rel => exact ⟨k + 1, hlt, by go_num, HBN⟩
    case measure => simp [intOf]; omega
set_option maxRecDepth 100000 in
set_option maxHeartbeats 1000000 in
theorem szStringS_any (lo hi : Nat) (v : Value) (xs : List (List UInt8)) (n : Nat) (w : World) (h : Strs w lo hi v xs) (hn : n ≤ 1048576) (hz : ∀ x ∈ xs, x.length ≤ 2 ^ 63 - 1) :
    Calls Tryz.prog 15 #[v, .int .i64 (n : Int)] w fun e w' => (∃ m : Int, e = .returned (.int .i64 m) ∧ (0 ≤ m → xs.length ≤ n ∧ ∀ x ∈ xs, x.length ≤ n)) ∧ w = w' := by
  obtain ⟨A, c, rfl, hc, hm⟩ := h.form
  have HS := Lib.hid h
  have HZ := Lib.hid hz
  clear h hz
  by_cases hl : xs.length ≤ n
  rotate_left
  · go_enter Tryz.func15, Tryz.ntmps15
    go_wp2
    go_ret
    exact ⟨⟨_, rfl, fun h => absurd h (by decide)⟩, rfl⟩
  go_enter Tryz.func15, Tryz.ntmps15
  go_wp2
  go_loop [1, 5] (fun l i => ∃ (k : Nat) (m : Nat), k ≤ xs.length ∧ i = .int .i64 k ∧ l = .int .i64 m ∧ m ≤ n ∧ Hid (∀ j, j < k → (gs xs j).length ≤ n)) (fun _ i => xs.length - (intOf i).toNat)
  case atStart => exact ⟨0, n - xs.length, by omega, rfl, by go_num, by omega, fun j hj => absurd hj (by omega)⟩
  case round =>
    obtain ⟨k, m, hk, rfl, rfl, hm2, HD⟩ := hrel
    by_cases hlt : k < xs.length
    rotate_left
    · have hnk : ¬ (k : Int) < (xs.length : Int) := by omega
      go_wp2
      go_ret
      have key : ∀ x ∈ xs, x.length ≤ n := fun x hx => by
        obtain ⟨j, hj, rfl⟩ := List.mem_iff_getElem.1 hx
        have := HD.out j (by omega)
        rwa [gs_eq hj] at this
      refine ⟨⟨_, rfl, fun _ => ?_⟩, rfl⟩
      first | exact key | exact ⟨hl, key⟩
    have k0 : (0 : Int) ≤ (k : Int) := by omega
    have k1 : (k : Int) < (xs.length : Int) := by omega
    obtain ⟨b, o, hA, _, _, hcell⟩ := HS.out.cell hlt
    subst hA
    obtain ⟨z, hz⟩ : ∃ z, z = TB (gs xs k) := ⟨_, rfl⟩
    rw [← hz] at hcell
    obtain ⟨q, hq⟩ : ∃ q, q = (gs xs k).length := ⟨_, rfl⟩
    have hzs : z.size = q := by rw [hz, TB_size, hq]
    have hq62 : q ≤ 2 ^ 63 - 1 := by rw [hq, gs_eq hlt]; exact HZ.out _ (List.getElem_mem _)
    have HQ := Lib.hid hq
    clear hz hq
    by_cases hl2 : q ≤ m
    · have g1 : IntKind.i64.wrap ((m : Int) - (q : Int)) = ((m - q : Nat) : Int) := by rw [Int.ofNat_sub hl2]; exact IntWalk.i64_in _ (by omega)
      have g1' : wrap64 ((m : Int) - (q : Int)) = ((m - q : Nat) : Int) := by rw [Int.ofNat_sub hl2]; exact w64 (by omega)
      have g2 : ¬ ((m - q : Nat) : Int) < 0 := by omega
      have HD2 := Lib.hid (show ∀ j, j < k + 1 → (gs xs j).length ≤ n from fun j hj => by
        rcases Nat.lt_or_ge j k with h | h
        · exact HD.out j h
        · obtain rfl : j = k := by omega
          rw [← HQ.out]; omega)
      go_wp2
      go_round
      case rel => exact ⟨k + 1, m - q, hlt, by go_num, rfl, by omega, HD2.out⟩
      case measure => simp [intOf]; omega
    · obtain ⟨d, hd⟩ : ∃ d : Int, d = (m : Int) - (q : Int) := ⟨_, rfl⟩
      have g1 : IntKind.i64.wrap ((m : Int) - (q : Int)) = d := by rw [hd]; exact IntWalk.i64_in _ (by omega)
      have g1' : wrap64 ((m : Int) - (q : Int)) = d := by rw [hd]; exact w64 (by omega)
      have g2 : d < 0 := by omega
      clear hd
      go_wp2
      go_ret
      exact ⟨⟨_, rfl, fun h => absurd h (by decide)⟩, rfl⟩
end Go.Proofs.YtkgepklapglmdaaGreatDoor
