/-
  Lemmas and contracts of single functions of this program, used by the proofs of its laws: what each call returns and what becomes of memory. Conditions: the hypotheses of each theorem.
-/
import Derived.Test.YtcebdokdekgeaaaReelC
namespace Go.Proofs.Ytcebdokdekgeaaa
open Go.RowKit

theorem made_all {z : Array Value} {c : Value} {n : Nat} (h : ∀ j, z[j % z.size]! = c) : (madeCells z n).toList = List.replicate n c := by
  apply List.ext_getElem (by simp [size_madeCells])
  intro j h1 h2
  simp [madeCells, h]
theorem OwnT.made {w : World} {base e k n c : Nat} {A : Option Addr} (h : w.ownsRow base e k (.slice A n c) n (List.replicate (n * k) (.int .i64 0))) : OwnT w base e k (.slice A n c) (List.replicate n (List.replicate k 0)) := by
  refine ⟨?_, fun x hx => ?_⟩
  · have e1 : flatT (List.replicate n (List.replicate k 0)) = List.replicate (n * k) (.int .i64 0) := by
      unfold flatT; rw [List.flatten_replicate_replicate, List.map_replicate]
    rw [List.length_replicate, e1]; exact h
  · rw [(List.mem_replicate.1 hx).2]
    exact ⟨List.length_replicate, fun y hy => by rw [(List.mem_replicate.1 hy).2]; exact ⟨by omega, by omega⟩⟩
theorem wpList_makeT {P : Program} {t e : TypeId} {z : Value} {k bytes : Nat} (S : SlT P t e z k bytes) (hz : ∀ j, z.cells[j % z.cells.size]! = .int .i64 0) (hby : bytes ≤ 100) {ops : Array Oper} {rest : List Oper} {o : Oper} {a : Act} {Q : Exit → Act → World → Prop} (w : World) (hgd : o.guard = none) (l c : Operand)
    (ho : o.op = Op.makeSlice t l c) (base n : Nat) (hl : a.eval l = .int .i64 (n : Int)) (hc : a.eval c = .int .i64 (n : Int)) (hn : n ≤ 1099511627776) (hb : base ≤ w.heap.size)
    (h : ∀ w', OwnT w' base e k (.slice (some ⟨w.heap.size, 0, none⟩) n n) (List.replicate n (List.replicate k 0)) → Below w.heap.size w w' → w.heap.size < w'.heap.size → wpList P ops Q rest (a.put o.dst (.slice (some ⟨w.heap.size, 0, none⟩) n n)) w') :
    wpList P ops Q (o :: rest) a w := by
  obtain ⟨i, hi, hz1, hz2, hz3⟩ := info_parts S.hi
  have hby2 : bytes * n ≤ 100 * 1099511627776 := Nat.mul_le_mul hby hn
  refine wpList_make_full w hgd l c t ho base e i _ k S.ht hi hz1 hz2 .i64 .i64 _ _ n hl hc rfl rfl (by rw [hz3]; omega) (by unfold maxLen; omega) hb fun w' k1 k2 => ?_
  have hlt := (k1.lt _ rfl).2
  rw [made_all hz] at k1
  exact h w' (OwnT.made k1) ((Below.refl _ _).grown k2 (Nat.le_refl _) fun k hk => by cases hk) hlt
theorem OwnT.at' {w : World} {base e k n c g : Nat} {xss : List (List Int)} (h : OwnT w base e k (.slice (some ⟨g, 0, none⟩) n c) xss) {i : Nat} (hi : i < xss.length) (h0 : 0 < k) :
    base ≤ g ∧ g < w.heap.size ∧ (∀ j, j < k → w.cell? ⟨g, i * k + j, none⟩ = some (.int .i64 (gi (gr xss i) j))) ∧ (∀ j, w.frozen? ⟨g, i * k + j, none⟩ = false) := by
  obtain ⟨g', e1, a, b, c1, d, _⟩ := h.at_ hi h0
  injection e1 with e2
  injection e2 with e3
  subst e3
  exact ⟨a, b, c1, d⟩
theorem rep_set {k : Nat} {r : List Int} (xs : List (List Int)) (i : Nat) (hi : i < xs.length) (hr : gr xs i = r) : (xs.take i ++ (List.replicate xs.length (List.replicate k 0)).drop i).set i r = xs.take (i + 1) ++ (List.replicate xs.length (List.replicate k 0)).drop (i + 1) := by
  subst hr
  have hm : i < (List.replicate xs.length (List.replicate k (0 : Int))).length := by rw [List.length_replicate]; exact hi
  rw [take_gr hi, List.set_append_right _ _ (by rw [List.length_take]; omega), List.length_take, Nat.min_eq_left (by omega), Nat.sub_self, drop_gr hm, List.set_cons_zero, List.append_assoc]; rfl

theorem SlPart : SlT Try.prog 33 38 (.agg #[.int .i64 0, .int .i64 0, .int .i64 0, .int .i64 0]) 4 32 := ⟨Try.underlying33, by kernel_rfl, rfl, by omega⟩
theorem SlPart_z : ∀ j, (Value.agg #[.int .i64 0, .int .i64 0, .int .i64 0, .int .i64 0]).cells[j % (Value.agg #[.int .i64 0, .int .i64 0, .int .i64 0, .int .i64 0]).cells.size]! = .int .i64 0 := by
  intro j
  show (#[Value.int .i64 0, Value.int .i64 0, Value.int .i64 0, Value.int .i64 0] : Array Value)[j % 4]! = _
  have h : j % 4 = 0 ∨ j % 4 = 1 ∨ j % 4 = 2 ∨ j % 4 = 3 := by omega
  rcases h with h | h | h | h <;> rw [h] <;> rfl
set_option maxHeartbeats 1000000 in
theorem toPart_any (d0 d1 d2 d3 : Int) (w : World) :
    Calls Try.prog 63 #[.agg #[.int .i64 d0, .int .i64 d1, .int .i64 d2, .int .i64 d3]] w fun e w' => e = .returned (.agg #[.int .i64 d0, .int .i64 d1, .int .i64 d2, .int .i64 d3]) ∧ Below w.heap.size w w' := by
  go_enter Try.func63, Try.ntmps63
  go_wp2
  exact bodyPost_ret (v := .agg #[.int .i64 d0, .int .i64 d1, .int .i64 d2, .int .i64 d3]) (by simp [results, Try.results63, go_sem]) rfl ⟨rfl, (((Below.refl _ _).alloc (Nat.le_refl _) _).alloc (by simp) _).alloc (by simp; omega) _⟩
theorem szPartS_any (A : Option Addr) (n c m : Nat) (w : World) (h : n ≤ m) (hm : m ≤ 1099511627776) :
    Calls Try.prog 100 #[.slice A n c, .int .i64 (m : Int)] w fun e w' => e = .returned (.int .i64 ((m - n : Nat) : Int)) ∧ w = w' := by
  go_enter Try.func100, Try.ntmps100
  go_wp2
  go_ret
  exact ⟨ret_int (by omega), rfl⟩
theorem szPartS_neg (A : Option Addr) (n c m : Nat) (w : World) (h : m < n) (hn : n ≤ 2 ^ 63 - 1) :
    Calls Try.prog 100 #[.slice A n c, .int .i64 (m : Int)] w fun e w' => e = .returned (.int .i64 (-1)) ∧ w = w' := by
  go_enter Try.func100, Try.ntmps100
  go_wp2
  go_ret
  exact ⟨rfl, rfl⟩
set_option maxHeartbeats 1000000 in
theorem toPartS_any (lo hi : Nat) (v : Value) (xs : List (List Int)) (w : World) (h : TS w lo hi 4 v xs) (hhi : hi ≤ w.heap.size) (hl : xs.length ≤ 1048576) :
    Calls Try.prog 102 #[v] w fun e w' => ∃ v', e = .returned v' ∧ OwnT w' w.heap.size 38 4 v' xs ∧ Below w.heap.size w w' := by
  obtain ⟨A, c, rfl, hc, hm⟩ := h.form
  go_enter Try.func102, Try.ntmps102
  go_wp2_with (at_make; refine wpList_makeT SlPart SlPart_z (by omega) _ rfl _ _ rfl w.heap.size xs.length rfl rfl (by omega) (Nat.le_refl _) ?_; intro w1 ho hb1 hs1)
  go_loopw [4] (fun i wr => ∃ k : Nat, k ≤ xs.length ∧ i = .int .i64 k ∧ OwnT wr w.heap.size 38 4 (.slice (some ⟨w.heap.size, 0, none⟩) xs.length xs.length) (xs.take k ++ (List.replicate xs.length (List.replicate 4 0)).drop k) ∧ Below w.heap.size w wr) (fun i _ => xs.length - (intOf i).toNat)
  case atStart => exact ⟨0, by omega, rfl, by simpa using ho, hb1⟩
  case round =>
    obtain ⟨k, hk, rfl, hown, hb⟩ := hrel
    by_cases hlt : k < xs.length
    · obtain ⟨b, o, rfl, hbl, hbh, e0, e1, e2, e3⟩ := (h.below hb hhi).c4 hlt
      have hlen : (xs.take k ++ (List.replicate xs.length (List.replicate 4 (0 : Int))).drop k).length = xs.length := by rw [List.length_append, List.length_take, List.length_drop, List.length_replicate]; omega
      have i0 := h.i64 hlt 0
      have i1 := h.i64 hlt 1
      have i2 := h.i64 hlt 2
      have i3 := h.i64 hlt 3
      have hrow : gr xs k = [gi (gr xs k) 0, gi (gr xs k) 1, gi (gr xs k) 2, gi (gr xs k) 3] := by
        have hq := (h.all _ (gr_mem hlt)).1
        obtain ⟨q, hq2⟩ : ∃ q, q = gr xs k := ⟨_, rfl⟩
        rw [← hq2] at hq ⊢
        match q, hq with
        | [_, _, _, _], _ => rfl
      obtain ⟨d0, hd0⟩ : ∃ d, d = gi (gr xs k) 0 := ⟨_, rfl⟩
      obtain ⟨d1, hd1⟩ : ∃ d, d = gi (gr xs k) 1 := ⟨_, rfl⟩
      obtain ⟨d2, hd2⟩ : ∃ d, d = gi (gr xs k) 2 := ⟨_, rfl⟩
      obtain ⟨d3, hd3⟩ : ∃ d, d = gi (gr xs k) 3 := ⟨_, rfl⟩
      rw [← hd0, ← hd1, ← hd2, ← hd3] at hrow
      rw [← hd0] at e0 i0
      rw [← hd1] at e1 i1
      rw [← hd2] at e2 i2
      rw [← hd3] at e3 i3
      have Hset := Lib.hid (rep_set (k := 4) xs k hlt hrow)
      have Hown := Lib.hid hown
      have Hlen := Lib.hid hlen
      clear hrow hown hlen hd0 hd1 hd2 hd3 ho
      go_wp2_with (go_at_call 63; refine (toPart_any _ _ _ _ _).mono ?_; rintro e w2 ⟨rfl, bx⟩; have ho2 := Hown.out.kept (.of_below bx (Nat.le_refl _)); obtain ⟨_, hsz, hcell, hfr⟩ := ho2.at' (i := k) (by rw [Hlen.out]; exact hlt) (by omega); have q0 := hcell 0 (by omega); have f0 := hfr 0; have q1 := hcell 1 (by omega); have f1 := hfr 1; have q2 := hcell 2 (by omega); have f2 := hfr 2; have q3 := hcell 3 (by omega); have f3 := hfr 3; rw [Nat.add_zero] at q0 f0; have hrow := ho2.row4 (i := k) (by rw [Hlen.out]; exact hlt) d0 d1 d2 d3 ⟨i0, i1, i2, i3⟩; rw [Hset.out] at hrow; have Hrow := Lib.hid hrow; have Hb := Lib.hid (hb.trans (bx.mono hb.size)); clear hrow hcell hfr ho2 hb)
      go_roundw
      case rel => exact ⟨k + 1, by omega, by go_num, Hrow.out, ((((Hb.out.setCell (p := ⟨w.heap.size, k * 4, none⟩) (Nat.le_refl _) _).setCell (p := ⟨w.heap.size, k * 4 + 1, none⟩) (Nat.le_refl _) _).setCell (p := ⟨w.heap.size, k * 4 + 2, none⟩) (Nat.le_refl _) _).setCell (p := ⟨w.heap.size, k * 4 + 3, none⟩) (Nat.le_refl _) _)⟩
      case measure => simp [intOf]; omega
    · have He := Lib.hid (show k = xs.length by omega)
      go_wp2
      go_ret
      exact ⟨_, rfl, by simpa [He.out] using hown, hb⟩
theorem SlDefect : SlT Try.prog 30 82 (.agg #[.int .i64 0, .int .i64 0, .int .i64 0, .int .i64 0, .int .i64 0]) 5 40 := ⟨Try.underlying30, by kernel_rfl, rfl, by omega⟩
theorem SlDefect_z : ∀ j, (Value.agg #[.int .i64 0, .int .i64 0, .int .i64 0, .int .i64 0, .int .i64 0]).cells[j % (Value.agg #[.int .i64 0, .int .i64 0, .int .i64 0, .int .i64 0, .int .i64 0]).cells.size]! = .int .i64 0 := by
  intro j
  show (#[Value.int .i64 0, Value.int .i64 0, Value.int .i64 0, Value.int .i64 0, Value.int .i64 0] : Array Value)[j % 5]! = _
  have h : j % 5 = 0 ∨ j % 5 = 1 ∨ j % 5 = 2 ∨ j % 5 = 3 ∨ j % 5 = 4 := by omega
  rcases h with h | h | h | h | h <;> rw [h] <;> rfl
set_option maxHeartbeats 1000000 in
theorem toDefect_any (d0 d1 d2 d3 d4 : Int) (w : World) :
    Calls Try.prog 114 #[.agg #[.int .i64 d0, .int .i64 d1, .int .i64 d2, .int .i64 d3, .int .i64 d4]] w fun e w' => e = .returned (.agg #[.int .i64 d0, .int .i64 d1, .int .i64 d2, .int .i64 d3, .int .i64 d4]) ∧ Below w.heap.size w w' := by
  go_enter Try.func114, Try.ntmps114
  go_wp2
  exact bodyPost_ret (v := .agg #[.int .i64 d0, .int .i64 d1, .int .i64 d2, .int .i64 d3, .int .i64 d4]) (by simp [results, Try.results114, go_sem]) rfl ⟨rfl, (((Below.refl _ _).alloc (Nat.le_refl _) _).alloc (by simp) _).alloc (by simp; omega) _⟩
theorem szDefectS_any (A : Option Addr) (n c m : Nat) (w : World) (h : n ≤ m) (hm : m ≤ 1099511627776) :
    Calls Try.prog 109 #[.slice A n c, .int .i64 (m : Int)] w fun e w' => e = .returned (.int .i64 ((m - n : Nat) : Int)) ∧ w = w' := by
  go_enter Try.func109, Try.ntmps109
  go_wp2
  go_ret
  exact ⟨ret_int (by omega), rfl⟩
theorem szDefectS_neg (A : Option Addr) (n c m : Nat) (w : World) (h : m < n) (hn : n ≤ 2 ^ 63 - 1) :
    Calls Try.prog 109 #[.slice A n c, .int .i64 (m : Int)] w fun e w' => e = .returned (.int .i64 (-1)) ∧ w = w' := by
  go_enter Try.func109, Try.ntmps109
  go_wp2
  go_ret
  exact ⟨rfl, rfl⟩
set_option maxHeartbeats 1000000 in
theorem toDefectS_any (lo hi : Nat) (v : Value) (xs : List (List Int)) (w : World) (h : TS w lo hi 5 v xs) (hhi : hi ≤ w.heap.size) (hl : xs.length ≤ 1048576) :
    Calls Try.prog 110 #[v] w fun e w' => ∃ v', e = .returned v' ∧ OwnT w' w.heap.size 82 5 v' xs ∧ Below w.heap.size w w' := by
  obtain ⟨A, c, rfl, hc, hm⟩ := h.form
  go_enter Try.func110, Try.ntmps110
  go_wp2_with (at_make; refine wpList_makeT SlDefect SlDefect_z (by omega) _ rfl _ _ rfl w.heap.size xs.length rfl rfl (by omega) (Nat.le_refl _) ?_; intro w1 ho hb1 hs1)
  go_loopw [4] (fun i wr => ∃ k : Nat, k ≤ xs.length ∧ i = .int .i64 k ∧ OwnT wr w.heap.size 82 5 (.slice (some ⟨w.heap.size, 0, none⟩) xs.length xs.length) (xs.take k ++ (List.replicate xs.length (List.replicate 5 0)).drop k) ∧ Below w.heap.size w wr) (fun i _ => xs.length - (intOf i).toNat)
  case atStart => exact ⟨0, by omega, rfl, by simpa using ho, hb1⟩
  case round =>
    obtain ⟨k, hk, rfl, hown, hb⟩ := hrel
    by_cases hlt : k < xs.length
    · obtain ⟨b, o, rfl, hbl, hbh, e0, e1, e2, e3, e4⟩ := (h.below hb hhi).c5 hlt
      have hlen : (xs.take k ++ (List.replicate xs.length (List.replicate 5 (0 : Int))).drop k).length = xs.length := by rw [List.length_append, List.length_take, List.length_drop, List.length_replicate]; omega
      have i0 := h.i64 hlt 0
      have i1 := h.i64 hlt 1
      have i2 := h.i64 hlt 2
      have i3 := h.i64 hlt 3
      have i4 := h.i64 hlt 4
      have hrow : gr xs k = [gi (gr xs k) 0, gi (gr xs k) 1, gi (gr xs k) 2, gi (gr xs k) 3, gi (gr xs k) 4] := by
        have hq := (h.all _ (gr_mem hlt)).1
        obtain ⟨q, hq2⟩ : ∃ q, q = gr xs k := ⟨_, rfl⟩
        rw [← hq2] at hq ⊢
        match q, hq with
        | [_, _, _, _, _], _ => rfl
      obtain ⟨d0, hd0⟩ : ∃ d, d = gi (gr xs k) 0 := ⟨_, rfl⟩
      obtain ⟨d1, hd1⟩ : ∃ d, d = gi (gr xs k) 1 := ⟨_, rfl⟩
      obtain ⟨d2, hd2⟩ : ∃ d, d = gi (gr xs k) 2 := ⟨_, rfl⟩
      obtain ⟨d3, hd3⟩ : ∃ d, d = gi (gr xs k) 3 := ⟨_, rfl⟩
      obtain ⟨d4, hd4⟩ : ∃ d, d = gi (gr xs k) 4 := ⟨_, rfl⟩
      rw [← hd0, ← hd1, ← hd2, ← hd3, ← hd4] at hrow
      rw [← hd0] at e0 i0
      rw [← hd1] at e1 i1
      rw [← hd2] at e2 i2
      rw [← hd3] at e3 i3
      rw [← hd4] at e4 i4
      have Hset := Lib.hid (rep_set (k := 5) xs k hlt hrow)
      have Hown := Lib.hid hown
      have Hlen := Lib.hid hlen
      clear hrow hown hlen hd0 hd1 hd2 hd3 hd4 ho
      go_wp2_with (go_at_call 114; refine (toDefect_any _ _ _ _ _ _).mono ?_; rintro e w2 ⟨rfl, bx⟩; have ho2 := Hown.out.kept (.of_below bx (Nat.le_refl _)); obtain ⟨_, hsz, hcell, hfr⟩ := ho2.at' (i := k) (by rw [Hlen.out]; exact hlt) (by omega); have q0 := hcell 0 (by omega); have f0 := hfr 0; have q1 := hcell 1 (by omega); have f1 := hfr 1; have q2 := hcell 2 (by omega); have f2 := hfr 2; have q3 := hcell 3 (by omega); have f3 := hfr 3; have q4 := hcell 4 (by omega); have f4 := hfr 4; rw [Nat.add_zero] at q0 f0; have hrow := ho2.row5 (i := k) (by rw [Hlen.out]; exact hlt) d0 d1 d2 d3 d4 ⟨i0, i1, i2, i3, i4⟩; rw [Hset.out] at hrow; have Hrow := Lib.hid hrow; have Hb := Lib.hid (hb.trans (bx.mono hb.size)); clear hrow hcell hfr ho2 hb)
      go_roundw
      case rel => exact ⟨k + 1, by omega, by go_num, Hrow.out, (((((Hb.out.setCell (p := ⟨w.heap.size, k * 5, none⟩) (Nat.le_refl _) _).setCell (p := ⟨w.heap.size, k * 5 + 1, none⟩) (Nat.le_refl _) _).setCell (p := ⟨w.heap.size, k * 5 + 2, none⟩) (Nat.le_refl _) _).setCell (p := ⟨w.heap.size, k * 5 + 3, none⟩) (Nat.le_refl _) _).setCell (p := ⟨w.heap.size, k * 5 + 4, none⟩) (Nat.le_refl _) _)⟩
      case measure => simp [intOf]; omega
    · have He := Lib.hid (show k = xs.length by omega)
      go_wp2
      go_ret
      exact ⟨_, rfl, by simpa [He.out] using hown, hb⟩
theorem szReel_any (W L : Int) (A : Option Addr) (n c : Nat) (w : World) (hn : n ≤ 2 ^ 63 - 1) :
    Calls Try.prog 99 #[.agg #[.int .i64 W, .int .i64 L, .slice A n c], .int .i64 1048576] w fun e w' => (if n ≤ 1048576 then e = .returned (.int .i64 ((1048576 - n : Nat) : Int)) else e = .returned (.int .i64 (-1))) ∧ Below w.heap.size w w' := by
  by_cases h : n ≤ 1048576
  · simp only [if_pos h]
    go_enter Try.func99, Try.ntmps99
    go_wp2_with (go_at_call 109; refine (szDefectS_any A n c 1048576 _ h (by omega)).mono ?_; rintro e w1 ⟨rfl, rfl⟩)
    go_ret
    exact ⟨rfl, (Below.refl _ _).alloc (Nat.le_refl _) _⟩
  · simp only [if_neg h]
    go_enter Try.func99, Try.ntmps99
    go_wp2_with (go_at_call 109; refine (szDefectS_neg A n c 1048576 _ (by omega) hn).mono ?_; rintro e w1 ⟨rfl, rfl⟩)
    go_ret
    exact ⟨rfl, (Below.refl _ _).alloc (Nat.le_refl _) _⟩
theorem eqReel_same (W L : Int) (l1 h1 l2 h2 : Nat) (v u : Value) (xs : List (List Int)) (w : World) (h : TS w l1 h1 5 v xs) (hh : h1 ≤ w.heap.size) (hy : TS w l2 h2 5 u xs) (hh2 : h2 ≤ w.heap.size) :
    Calls Try.prog 97 #[.agg #[.int .i64 W, .int .i64 L, v], .agg #[.int .i64 W, .int .i64 L, u]] w fun e w' => e = .returned (.bool true) ∧ Below w.heap.size w w' := by
  obtain ⟨A, c, rfl, hc, hm⟩ := h.form
  obtain ⟨B, d, rfl, hd, hm'⟩ := hy.form
  have g1 : (W != W) = false := bne_f rfl
  have g2 : (L != L) = false := bne_f rfl
  have b0 : Below w.heap.size w ((w.alloc (.cells #[.int .i64 W, .int .i64 L, .slice A xs.length c] 32)).alloc (.cells #[.int .i64 W, .int .i64 L, .slice B xs.length d] 32)) := ((Below.refl _ _).alloc (Nat.le_refl _) _).alloc (by simp) _
  have q1 := h.below b0 hh
  have q2 := hy.below b0 hh2
  have s0 := b0.size
  go_enter Try.func97, Try.ntmps97
  go_wp2_with (go_at_call 108; refine (eqDefectS_same _ _ _ _ _ _ xs _ q1 (by omega) q2 (by omega)).mono ?_; rintro e w1 ⟨rfl, b1⟩)
  go_ret
  exact ⟨rfl, b0.trans (b1.mono s0)⟩
end Go.Proofs.Ytcebdokdekgeaaa
