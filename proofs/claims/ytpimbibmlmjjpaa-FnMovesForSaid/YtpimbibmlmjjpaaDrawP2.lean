/-
  Lemmas and contracts of single functions of this program, used by the proofs of its laws: what each call returns and what becomes of memory. Conditions: the hypotheses of each theorem.
-/
import Derived.Test.YtpimbibmlmjjpaaDrawP
namespace Go.Proofs.Ytpimbibmlmjjpaa
open Go.RowKit

/-- a literal of ints -/
theorem lit_own (w : World) (t : TypeId) (xs : List Int) (hl : xs.length ≤ 1000) (hx : ∀ x ∈ xs, I64 x) : OwnI (w.alloc (.cells (xs.map (Value.int .i64)).toArray t)) w.heap.size t (.slice (some ⟨w.heap.size, 0, none⟩) xs.length xs.length) xs := by
  refine ⟨⟨by simp, .inr ⟨w.heap.size, xs.length, _, rfl, Nat.le_refl _, heap_alloc_new w _, Nat.le_refl _, by simp only [maxLen]; omega, by simp, ?_⟩⟩, hx⟩
  rw [List.take_of_length_le (by simp)]

theorem wpList_appendR' {P : Program} {t e tI : TypeId} (S : SlT P t e (.slice none 0 0) 1 24) (hte : e ≠ tI) {ops : Array Oper} {rest : List Oper} {o : Oper} {a : Act} {Q : Exit → Act → World → Prop} (w : World) (hgd : o.guard = none) (s x : Operand)
    (ho : o.op = .call { callee := .builtin .append, args := #[s, x], argTypes := #[t, t] }) (A : Option Addr) (m c : Nat)
    (base sz n0 : Nat) (hn0 : n0 = w.heap.size) (v : Value) (xss : List (List Int)) (ys : List Int) (hs : a.eval s = v) (hx : a.eval x = .slice (some ⟨n0, 0, none⟩) 1 1) (hown : OwnR w base sz e tI v xss) (hu : OwnI w sz tI (.slice A m c) ys)
    (hn : xss.length ≤ 1099511627776) (hb : base ≤ sz) (hsz : sz ≤ w.heap.size)
    (h : ∀ v' w', OwnR w' base w'.heap.size e tI v' (xss ++ [ys]) → Grew base v v' w w' → wpList P ops Q rest (a.put o.dst v') w') :
    wpList P ops Q (o :: rest) a (w.alloc (.cells #[.slice A m c] e)) := by
  subst hn0
  exact wpList_appendR S hte w hgd s x ho A m c base sz v xss ys hs hx hown hu hn hb hsz h
set_option maxRecDepth 100000 in
set_option maxHeartbeats 2000000 in
theorem anyPile_any (B k g : Nat) (v : Value) (most : Int) (w : World) (h : Rdr w B k g v) (hk : k ≤ 800000) (hm0 : -1000 ≤ most) (hm1 : most ≤ 1000) :
    Calls Try.prog 60 #[v, .int .i64 most] w fun e w' => ∃ v' p k' s, e = .returned v' ∧ OwnR w' w.heap.size s 26 3 v' p ∧ s ≤ w'.heap.size ∧ p.length ≤ 7 ∧ tot p ≤ 40 ∧ Rdr w' B k' g v ∧ k' ≤ k + 200 ∧ w.grownBy w' (some g) := by
  have hg0 := h.lt
  go_enter Try.func60, Try.ntmps60
  go_wp2_with fail
  refine (somePile_any B k g v most _ h (by omega) hm0 hm1).mono ?_
  rintro e w1 ⟨v1, p, k1, s, rfl, ho1, hs1, hpl, htp, hr1, hk1, hgr1, hpos⟩
  obtain ⟨A, c, rfl, hc, hm⟩ := ho1.form
  have hsz := hgr1.size
  have Hpos := Lib.hid hpos
  clear hpos
  by_cases hp0 : 0 < p.length
  · go_wp2_with fail
    refine (pick_any B k1 g v 20 _ hr1 (by omega) (by omega)).mono ?_
    rintro e w2 ⟨z, rfl, hz, hr2, hon2⟩
    obtain ⟨hz0, hz1⟩ := hz.2 (by omega)
    have ho2 := ho1.kept (hon2.kept (l := w.heap.size) (u := s) (.inr (by omega)))
    have hgr2 := grown_trans hgr1 (grown_only hon2)
    have hs2 : s ≤ w2.heap.size := by rw [hon2.size]; exact hs1
    have hsz2 := hgr2.size
    clear hz ho1 hr1 hgr1 hon2 hs1
    by_cases h0 : z = 0
    · have h0' : (z == 0) = true := beq_t h0
      clear h0
      have hl0 := Hpos.out 0 hp0
      obtain ⟨b, gi0, ci0, rfl, hbl, hbh, hcl0, hci0, hmi0, hgi0l, hgi0h, hne0, hcl1, hfr1, hset⟩ := ho2.at_ (r := 0) (i := 0) (by decide) hp0 hl0
      have Hset := Lib.hid hset
      have Ht := Lib.hid (fun x => tot_set2 p 0 0 x)
      obtain ⟨x0, hx0⟩ : ∃ x, x = gi (gr p 0) 0 := ⟨_, rfl⟩
      rw [← hx0] at hcl1
      obtain ⟨l0, hl0e⟩ : ∃ l, l = (gr p 0).length := ⟨_, rfl⟩
      rw [← hl0e] at hcl0 hci0 hl0
      have hone : Calls Try.prog 61 #[v, .slice (some ⟨w2.heap.size, 0, none⟩) 3 3] (w2.drew.alloc (.cells #[.int .i64 (-1), .int .i64 10000, .int .i64 0] 3)) fun e w' => ∃ x : Int, e = .returned (.int .i64 x) ∧ I64 x ∧ Rdr w' B (k1 + 2) g v ∧ w2.grownBy w' (some g) ∧ w'.cell? ⟨b, 0, none⟩ = some (.slice (some ⟨gi0, 0, none⟩) l0 ci0) ∧ w'.cell? ⟨gi0, 0, none⟩ = some (.int .i64 x0) ∧ w'.frozen? ⟨gi0, 0, none⟩ = false := by
        refine (one_lit B (k1 + 1) g v [-1, 10000, 0] w2.drew _ _ _ (hr2.kept rfl (fun _ _ _ => rfl)) (by omega) rfl rfl rfl (by simp) (by simp) (by unfold I64; simp)).mono ?_
        rintro e w3 ⟨x, rfl, hx, hr3, gr3⟩
        have gr3' : w2.grownBy w3 (some g) := ⟨gr3.os, gr3.tape, gr3.output, gr3.size, gr3.block⟩
        refine ⟨x, rfl, by simp only [List.mem_cons, List.not_mem_nil, or_false] at hx; unfold I64; omega, hr3, gr3', ?_, ?_, ?_⟩
        · exact (World.cell?_of_block (gr3'.block b (by omega) (fun e => by injection e with e; omega))).trans hcl0
        · exact (World.cell?_of_block (gr3'.block gi0 (by omega) (fun e => by injection e with e; omega))).trans hcl1
        · rw [World.frozen?_of_block (gr3'.block gi0 (by omega) (fun e => by injection e with e; omega))]; exact hfr1
      clear hset hx0 hl0e
      have := World.new_ne w2 ⟨b, 0, none⟩ hcl0
      go_wp2_with fail
      go_region_held3 (fun w' => w'.cell? ⟨b, 0, none⟩ = some (.slice (some ⟨gi0, 0, none⟩) l0 ci0)) (first | go_keep | exact hcl0'' | exact (World.cell?_setCell_far _ _ _ _ (by simpa using hne0)).trans hcl0'') (first | (go_at_call 61; refine hone.mono ?_; rintro e w3 ⟨x, rfl, hx64, hr3, gr3, hcl0'', hcl1'', hfr1''⟩))
      go_wp2_with fail
      go_ret
      exact ⟨_, set2 p 0 0 x, k1 + 2, s, rfl, sp_store2 hg0.2 (Hset.out x hx64) gr3 hs2, by simp only [World.setCell, Array.size_modify]; exact Nat.le_trans hs2 gr3.size, by rw [(Ht.out x).1]; omega, by rw [(Ht.out x).2]; omega, hr3.kept (Below.heap_setCell _ _ _ _ (by show g ≠ gi0; omega)) (fun k _ hk => Below.heap_setCell _ _ _ _ (by show k ≠ gi0; omega)), by omega, grown_setCell (grown_trans hgr2 gr3) hgi0l _⟩
    · have h0' : (z == 0) = false := beq_f h0
      clear h0
      by_cases h1 : z = 1
      · have h1' : (z == 1) = true := beq_t h1
        clear h1
        have hb3 : Below w2.heap.size w2 (w2.alloc (.cells #[.int .i64 1, .int .i64 2, .int .i64 3] 3)) := (Below.refl _ _).alloc (Nat.le_refl _) _
        have ho3 := (ho2.wide (Nat.le_refl _) hs2).kept (.of_below hb3 (Nat.le_refl _))
        have hu3 : OwnI (w2.alloc (.cells #[.int .i64 1, .int .i64 2, .int .i64 3] 3)) w2.heap.size 3 (.slice (some ⟨w2.heap.size, 0, none⟩) 3 3) [1, 2, 3] := lit_own w2 3 [1, 2, 3] (by simp) (by unfold I64; simp)
        have hr3 := hr2.below hb3
        have hgr3 := grown_trans hgr2 (grown_below hb3 (some g))
        go_wp2_with (at_builtin; (refine wpList_appendR' SlR (by decide) _ rfl (.tmp 25) (.tmp 27) rfl _ _ _ w.heap.size w2.heap.size (w2.heap.size + 1) (by simp) _ _ [1, 2, 3] rfl rfl ho3 hu3 (by omega) hsz2 (by simp) ?_; intro v4 w4 hown4 hg4))
        go_ret
        have htl : tot (p ++ [[1, 2, 3]]) ≤ 40 := by
          rw [tot_append]
          have h3 : tot [[1, 2, 3]] = 3 := rfl
          omega
        refine ⟨_, _, k1 + 1, w4.heap.size, rfl, hown4, Nat.le_refl _, by simp; omega, htl, hr3.kept (hg4.below.block g hg0.2) (.of_below hg4.below (by omega)), by omega, ?_⟩
        exact ⟨hg4.below.os.trans hgr3.os, hg4.below.tape.trans hgr3.tape, hg4.below.output.trans hgr3.output, Nat.le_trans hgr3.size hg4.size, fun i hi hne => (hg4.below.block i hi).trans (hgr3.block i hi hne)⟩
      · have h1' : (z == 1) = false := beq_f h1
        clear h1
        go_wp2_with fail
        go_ret
        exact ⟨_, p, k1 + 1, s, rfl, ho2, hs2, by omega, by omega, hr2, by omega, hgr2⟩
  · go_wp2_with fail
    go_ret
    exact ⟨_, p, k1, s, rfl, ho1, hs1, by omega, by omega, hr1, by omega, hgr1⟩
set_option maxRecDepth 100000 in
set_option maxHeartbeats 1000000 in
theorem aLabel_any (B k g lo hi : Nat) (v u : Value) (p : List (List Int)) (w : World) (h : Rdr w B k g v) (hp : IRows w lo hi u p) (hhi : hi ≤ w.heap.size) (ht : tot p ≤ 1048576) (hk : k ≤ 900000) :
    Calls Try.prog 62 #[v, u] w fun e w' => ∃ x k', e = .returned (.int .i64 x) ∧ I64 x ∧ Rdr w' B k' g v ∧ k' ≤ k + 2 ∧ w.grownBy w' (some g) := by
  obtain ⟨A, c, rfl, hc, hm⟩ := hp.form
  have hg0 := h.lt
  go_enter Try.func62, Try.ntmps62
  go_wp2_with fail
  refine (labels_any _ _ _ _ _ hp hhi ht).mono ?_
  rintro e w1 ⟨v1, rfl, ho1, hb1⟩
  obtain ⟨A1, c1, rfl, hc1, hm1⟩ := ho1.form
  have hlen := labelsL_len p
  have hr1 := h.below hb1
  have hgr1 := grown_below hb1 (some g)
  obtain ⟨L, hL⟩ : ∃ L, L = labelsL p := ⟨_, rfl⟩
  rw [← hL] at ho1 hlen hc1 ⊢
  clear hL
  have hx : ∀ x : Int, x ∈ [1, 0, 9999, 10000, -1] → I64 x := by
    intro x hx
    simp only [List.mem_cons, List.not_mem_nil, or_false] at hx
    unfold I64; omega
  have Hx := Lib.hid hx
  clear hx
  by_cases h0 : L.length = 0
  · have h0' : ((L.length : Int) == 0) = true := beq_t (by omega)
    have H0 := Lib.hid h0
    clear h0
    go_wp2_with fail
    refine (one_lit B k g v [1, 0, 9999, 10000, -1] w1 _ _ _ hr1 (by omega) rfl rfl rfl (by simp) (by simp) Hx.out).mono ?_
    rintro e w2 ⟨x, rfl, hx, hr2, gr2⟩
    have hx64 := Hx.out x hx
    clear hx
    go_wp2_with fail
    go_ret
    exact ⟨x, k + 1, rfl, hx64, hr2, by omega, grown_trans hgr1 gr2⟩
  · have h0' : ((L.length : Int) == 0) = false := beq_f (by omega)
    go_wp2_with fail
    refine (pick_any B k g v 8 _ hr1 (by omega) (by omega)).mono ?_
    rintro e w2 ⟨z, rfl, hz, hr2, hon2⟩
    have hgr2 := grown_trans hgr1 (grown_only hon2)
    have hi2 := ho1.ints.kept (hon2.kept (.inr (by omega)))
    clear hz ho1 hr1 hgr1 hon2
    by_cases hz8 : z = 0
    · have hz' : (z == 0) = true := beq_t hz8
      clear hz8
      go_wp2_with fail
      refine (one_lit B (k + 1) g v [1, 0, 9999, 10000, -1] w2 _ _ _ hr2 (by omega) rfl rfl rfl (by simp) (by simp) Hx.out).mono ?_
      rintro e w3 ⟨x, rfl, hx, hr3, gr3⟩
      have hx64 := Hx.out x hx
      clear hx
      go_wp2_with fail
      go_ret
      exact ⟨x, k + 2, rfl, hx64, hr3, by omega, grown_trans hgr2 gr3⟩
    · have hz' : (z == 0) = false := beq_f hz8
      clear hz8
      go_wp2_with fail
      refine (pick_any B (k + 1) g v (L.length : Int) _ hr2 (by omega) (by omega)).mono ?_
      rintro e w3 ⟨y, rfl, hy, hr3, hon3⟩
      obtain ⟨hy0, hy1⟩ := hy.2 (by omega)
      obtain ⟨q, rfl⟩ := Int.eq_ofNat_of_zero_le hy0
      obtain ⟨b, o, rfl, _, _, hcell, h64⟩ := (hi2.kept (hon3.kept (.inr (by omega)))).cell (k := q) (by omega)
      have hgr3 := grown_trans hgr2 (grown_only hon3)
      clear hy hi2 hgr2 hon3
      go_wp2_with fail
      go_ret
      exact ⟨_, k + 2, rfl, h64, hr3, by omega, hgr3⟩

/-- what a drawn pile is -/
def DrawnP (w w' : World) (v' : Value) (p : List (List Int)) : Prop :=
  ∃ s, OwnR w' w.heap.size s 26 3 v' p ∧ s ≤ w'.heap.size ∧ p.length ≤ 7 ∧ tot p ≤ 40 ∧ Below w.heap.size w w'
theorem DrawFindRoll_any (v : Value) (xs : List Int) (w : World) (h : Bytes w 0 w.heap.size v xs) :
    Calls Try.prog 45 #[v] w fun e w' => ∃ v' p x, e = .returned (.tuple #[v', .int .i64 x]) ∧ I64 x ∧ DrawnP w w' v' p := by
  go_enter Try.func45, Try.ntmps45
  go_wp2_with fail
  refine (newReader_any _ _ _ h).mono ?_
  rintro e w1 ⟨r, rfl, hr1, hb1⟩
  have hlt := hr1.lt
  go_wp2_with fail
  refine (anyPile_any _ _ _ _ 30 _ hr1 (by omega) (by omega) (by omega)).mono ?_
  rintro e w2 ⟨v2, p, k2, s, rfl, ho2, hs2, hpl, htp, hr2, hk2, hgr2⟩
  have hb2 := hb1.trans (below_of_grown hgr2 (Nat.le_refl _) (by omega))
  have hsz2 := hgr2.size
  obtain ⟨A, c, rfl, hc, hm⟩ := ho2.form
  go_wp2_with fail
  refine (aLabel_any _ _ _ _ _ _ _ _ _ hr2 ho2.rows hs2 (by omega) (by omega)).mono ?_
  rintro e w3 ⟨x, k3, rfl, hx, hr3, hk3, hgr3⟩
  have hb3 := hb2.trans (below_of_grown hgr3 (Nat.le_refl _) (by omega))
  have ho3 := (ho2.kept (.of_grown hgr3 hs2 (.inl (by omega)))).wide hb1.size (Nat.le_refl _)
  have hs3 := Nat.le_trans hs2 hgr3.size
  clear hgr2 hgr3 hr2 hr3 ho2
  go_wp2_with fail
  go_ret2
  exact ⟨_, p, x, rfl, hx, s, ho3, hs3, hpl, htp, hb3⟩
theorem DrawAboveOf_any (v : Value) (xs : List Int) (w : World) (h : Bytes w 0 w.heap.size v xs) :
    Calls Try.prog 14 #[v] w fun e w' => ∃ v' p x, e = .returned (.tuple #[v', .int .i64 x]) ∧ I64 x ∧ DrawnP w w' v' p := by
  go_enter Try.func14, Try.ntmps14
  go_wp2_with fail
  refine (DrawFindRoll_any _ _ _ h).mono ?_
  rintro e w1 ⟨v1, p, x, rfl, hx, hd⟩
  go_wp2_with fail
  go_ret2
  exact ⟨_, p, x, rfl, hx, hd⟩
theorem DrawTakeRoll_any (v : Value) (xs : List Int) (w : World) (h : Bytes w 0 w.heap.size v xs) :
    Calls Try.prog 38 #[v] w fun e w' => ∃ v' p x, e = .returned (.tuple #[v', .int .i64 x]) ∧ I64 x ∧ DrawnP w w' v' p := by
  go_enter Try.func38, Try.ntmps38
  go_wp2_with fail
  refine (DrawFindRoll_any _ _ _ h).mono ?_
  rintro e w1 ⟨v1, p, x, rfl, hx, hd⟩
  go_wp2_with fail
  go_ret2
  exact ⟨_, p, x, rfl, hx, hd⟩
theorem DrawCountTakes_any (v : Value) (xs : List Int) (w : World) (h : Bytes w 0 w.heap.size v xs) :
    Calls Try.prog 36 #[v] w fun e w' => ∃ v' p, e = .returned v' ∧ DrawnP w w' v' p := by
  go_enter Try.func36, Try.ntmps36
  go_wp2_with fail
  refine (newReader_any _ _ _ h).mono ?_
  rintro e w1 ⟨r, rfl, hr1, hb1⟩
  have hlt := hr1.lt
  go_wp2_with fail
  refine (one_lit _ _ _ _ [6, 7, 5, 8, 10] w1 _ _ _ hr1 (by omega) rfl rfl rfl (by simp) (by simp) (by unfold I64; simp)).mono ?_
  rintro e w2 ⟨m, rfl, hm, hr2, hgr2⟩
  have hm1 : 0 ≤ m ∧ m ≤ 1000 := by simp only [List.mem_cons, List.not_mem_nil, or_false] at hm; omega
  have hb2 := hb1.trans (below_of_grown hgr2 (Nat.le_refl _) (by omega))
  have hsz2 := hgr2.size
  clear hm hr1 hgr2
  go_wp2_with fail
  refine (anyPile_any _ _ _ _ m _ hr2 (by omega) (by omega) (by omega)).mono ?_
  rintro e w3 ⟨v3, p, k3, s, rfl, ho3, hs3, hpl, htp, hr3, hk3, hgr3⟩
  have hb3 := hb2.trans (below_of_grown hgr3 (Nat.le_refl _) (by omega))
  have ho3' := ho3.wide hb2.size (Nat.le_refl _)
  clear hgr3 hr2 hr3 ho3
  go_wp2_with fail
  go_ret
  exact ⟨_, p, rfl, s, ho3', hs3, hpl, htp, hb3⟩
set_option maxHeartbeats 1000000 in
theorem DrawPutRoll_any (v : Value) (xs : List Int) (w : World) (h : Bytes w 0 w.heap.size v xs) :
    Calls Try.prog 30 #[v] w fun e w' => ∃ v' p x, e = .returned (.tuple #[v', .int .i64 x]) ∧ I64 x ∧ DrawnP w w' v' p := by
  go_enter Try.func30, Try.ntmps30
  go_wp2_with fail
  refine (newReader_any _ _ _ h).mono ?_
  rintro e w1 ⟨r, rfl, hr1, hb1⟩
  have hlt := hr1.lt
  go_wp2_with fail
  refine (one_lit _ _ _ _ [30, 4, 2, 7] w1 _ _ _ hr1 (by omega) rfl rfl rfl (by simp) (by simp) (by unfold I64; simp)).mono ?_
  rintro e w2 ⟨m, rfl, hm, hr2, hgr2⟩
  have hm1 : 0 ≤ m ∧ m ≤ 1000 := by simp only [List.mem_cons, List.not_mem_nil, or_false] at hm; omega
  have hb2 := hb1.trans (below_of_grown hgr2 (Nat.le_refl _) (by omega))
  have hsz2 := hgr2.size
  clear hm hr1 hgr2
  go_wp2_with fail
  refine (anyPile_any _ _ _ _ m _ hr2 (by omega) (by omega) (by omega)).mono ?_
  rintro e w3 ⟨v3, p, k3, s, rfl, ho3, hs3, hpl, htp, hr3, hk3, hgr3⟩
  have hb3 := hb2.trans (below_of_grown hgr3 (Nat.le_refl _) (by omega))
  have hsz3 := hgr3.size
  obtain ⟨A, c, rfl, hc, hm⟩ := ho3.form
  clear hgr3 hr2
  go_wp2_with fail
  refine (aLabel_any _ _ _ _ _ _ _ _ _ hr3 ho3.rows hs3 (by omega) (by omega)).mono ?_
  rintro e w4 ⟨x, k4, rfl, hx, hr4, hk4, hgr4⟩
  have hb4 := hb3.trans (below_of_grown hgr4 (Nat.le_refl _) (by omega))
  have ho4 := ho3.kept (.of_grown hgr4 hs3 (.inl (by omega)))
  have hs4 := Nat.le_trans hs3 hgr4.size
  have hsz4 := hgr4.size
  clear ho3 hr3 hgr4
  have hl5 : ∀ y ∈ [500, 9999, x, 0, 10000], I64 y := by
    intro y hy
    simp only [List.mem_cons, List.not_mem_nil, or_false] at hy
    rcases hy with rfl | rfl | rfl | rfl | rfl <;> first | exact hx | (unfold I64; omega)
  have Hl5 := Lib.hid hl5
  clear hl5
  go_wp2_with fail
  refine (one_lit _ _ _ _ [500, 9999, x, 0, 10000] w4 _ _ _ hr4 (by omega) rfl rfl rfl (by simp) (by simp) Hl5.out).mono ?_
  rintro e w5 ⟨y, rfl, hy, hr5, hgr5⟩
  have hy64 := Hl5.out y hy
  have hb5 := hb4.trans (below_of_grown hgr5 (Nat.le_refl _) (by omega))
  have ho5 := (ho4.kept (.of_grown hgr5 hs4 (.inl (by omega)))).wide hb2.size (Nat.le_refl _)
  have hs5 := Nat.le_trans hs4 hgr5.size
  clear hy hgr5 hr4 hr5 ho4
  go_wp2_with fail
  go_ret2
  exact ⟨_, p, y, rfl, hy64, s, ho5, hs5, hpl, htp, hb5⟩
end Go.Proofs.Ytpimbibmlmjjpaa
