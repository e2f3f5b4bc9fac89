/-
  Lemmas and contracts of single functions of this program, used by the proofs of its laws: what each call returns and what becomes of memory. Conditions: the hypotheses of each theorem.
-/
import Derived.Test.YteckjiaaikdghaaKniT
import Derived.Test.YteckjiaaikdghaaAllR
import Derived.Test.YteckjiaaikdghaaRegLast
namespace Go.Proofs.Yteckjiaaikdghaa
open Go.RowKit
attribute [local go_sem ↓] Go.wp_at_zero Go.wp_at_succ

theorem begunK_nil (n : Nat) : Begun n [] := ⟨List.nodup_nil, fun x hx => absurd hx (by simp)⟩
theorem bestK_first (c : List Int → Int) (n : Nat) : bestO c n n [] = firstO c [] (allO n n []) := by
  rcases Nat.eq_zero_or_pos n with h | h
  · subst h; show [] = stepO c [] []; unfold stepO; simp
  · exact (best_all c h n [] (begunK_nil n) (by simp)).1
theorem allK_begun {n : Nat} : ∀ o ∈ allO n n [], o.length = n ∧ Begun n o := fun o ho => by
  rcases Nat.eq_zero_or_pos n with h | h
  · subst h
    have : o = [] := by simpa [allO] using ho
    subst this; exact ⟨rfl, begunK_nil 0⟩
  · exact (best_all (fun _ => 0) h n [] (begunK_nil n) (by simp)).2.2 o ho
theorem allK_some {n : Nat} : (∀ o ∈ allO n n [], o ≠ []) ∨ (allO n n []).length ≤ 1 := by
  rcases Nat.eq_zero_or_pos n with h | h
  · subst h; exact .inr (by simp [allO])
  · exact .inl fun o ho e => by have := (allK_begun o ho).1; rw [e] at this; simp at this; omega
theorem begunK_ex {n : Nat} {o : List Int} (h : Begun n o) : ∀ x ∈ o, ∃ i : Nat, x = (i : Int) ∧ i < n := fun x hx => by
  obtain ⟨h1, h2⟩ := h.2 x hx
  obtain ⟨i, rfl⟩ := Int.eq_ofNat_of_zero_le h1
  exact ⟨i, rfl, by omega⟩
theorem bestK_ok (c : List Int → Int) {n : Nat} (hn : 0 < n) {d : Nat} {pre : List Int} (hb : Begun n pre) (hl : pre.length + d = n) : (bestO c n d pre).length = n ∧ Begun n (bestO c n d pre) := by
  obtain ⟨h1, h2, h3⟩ := best_all c hn d pre hb hl
  have h4 := firstO_min (c := c) h2 fun o ho e => by have := (h3 o ho).1; rw [e] at this; simp at this; omega
  rw [h1]
  exact h3 _ h4.1
theorem copyIntsK_any (lo hi : Nat) (v : Value) (xs : List Int) (w : World) (h : Ints w lo hi v xs) (hhi : hi ≤ w.heap.size) (hl : xs.length ≤ 1099511627776) :
    Calls Try.prog 89 #[v] w fun e w' => ∃ v', e = .returned v' ∧ OwnI w' w.heap.size 3 v' xs ∧ Below w.heap.size w w' := by
  obtain ⟨A, c, rfl, hc, hm⟩ := h.form
  have h2 : Ints (w.alloc (.cells #[] 3)) lo hi (.slice A xs.length c) xs := h.kept fun k _ hk => Below.heap_alloc w _ k (by omega)
  go_enter Try.func89, Try.ntmps89
  go_wp2_with (at_builtin; refine wpList_appendIs SlI _ rfl (.tmp 3) (.tmp 4) rfl _ _ _ w.heap.size _ [] _ rfl rfl (OwnI.empty _ _ _ (Nat.le_refl _)) h2 (by simpa using hl) (by simp) ?_; intro v' w1 hown1 hg)
  go_ret
  exact ⟨_, rfl, by simpa using hown1, ((Below.refl _ _).alloc (Nat.le_refl _) _).trans hg.below⟩
set_option maxRecDepth 100000 in
set_option maxHeartbeats 2000000 in
theorem firstLeastB_any (base s : Nat) (v : Value) (L : List (List Int)) (c : List Int → Int) (p1 : Value) (w : World) (h : OwnR w base s 22 3 v L) (hs : s ≤ w.heap.size) (hn : (∀ o ∈ L, o ≠ []) ∨ L.length ≤ 1) (hl : L.length ≤ 100000)
    (hcall : ∀ (w' : World) (x : Value) (o : List Int), Below w.heap.size w w' → OwnI w' base 3 x o → o ∈ L → Calls Try.prog 57 #[x, p1] w' fun e w'' => e = .returned (.int .i64 (c o)) ∧ Below w'.heap.size w' w'') :
    Calls Try.prog 49 #[v, .func (.func 57) #[] #[p1]] w fun e w' => ∃ v', e = .returned v' ∧ OwnI w' base 3 v' (firstO c [] L) ∧ Below w.heap.size w w' := by
  obtain ⟨A, cc, rfl, hc, hm⟩ := h.form
  have HN := Lib.hid hn
  have HC := Lib.hid hcall
  clear hn hcall
  go_enter Try.func49, Try.ntmps49
  go_wp2
  go_loopw [5, 6, 7, 8, 9, 12] (fun b le _ _ _ i wr => ∃ (k : Nat) (m : Int), k ≤ L.length ∧ i = .int .i64 k ∧ le = .int .i64 m ∧ OwnI wr base 3 b (firstO c [] (L.take k)) ∧ Below w.heap.size w wr ∧ Hid (k = 0 ∨ m = c (firstO c [] (L.take k)))) (fun _ _ _ _ _ i _ => L.length - (intOf i).toNat)
  case atStart => exact ⟨0, 0, Nat.zero_le _, rfl, rfl, OwnI.nil _ _ _, Below.refl _ _, .inl rfl⟩
  case round =>
    obtain ⟨k, m, hk, rfl, rfl, hown, hb, HM⟩ := hrel
    have hfo := hown.form
    obtain ⟨A3, c3, rfl, _, _⟩ := hfo
    by_cases hlt : k < L.length
    · have hL := h.kept (.of_below hb hs)
      obtain ⟨g, Ai, ci, rfl, hgl, hgh, hcell, hci, hmi, hoi, hbs, _⟩ := hL.rowAt (r := k) (by decide) hlt
      obtain ⟨o, ho⟩ : ∃ o, o = gr L k := ⟨_, rfl⟩
      rw [← ho] at hcell hci hoi
      have hk0 : (0 : Int) ≤ (k : Int) := by omega
      have hk1 : (k : Int) < (L.length : Int) := by omega
      have Hb := Lib.hid hb
      have Hown := Lib.hid hown
      have Hoi := Lib.hid hoi
      have hom : o ∈ L := by rw [ho]; exact gr_mem hlt
      have HF := Lib.hid (show firstO c [] (L.take (k + 1)) = stepO c (firstO c [] (L.take k)) o by rw [take_gr hlt, firstO_append, ho]; rfl)
      have HN2 := Lib.hid (show 0 < k → firstO c [] (L.take k) ≠ [] from fun h0 => by
        have h1 : ∀ o ∈ L, o ≠ [] := HN.out.elim id fun h => absurd h (by omega)
        exact (firstO_step (c := c) (l := L.take k) (by intro e; have := congrArg List.length e; rw [List.length_take, List.length_nil] at this; omega) (fun y hy => h1 y (List.mem_of_mem_take hy)) []).2)
      clear hown hoi hb ho hL hbs
      go_wp2_with fail
      refine (HC.out wr _ o Hb.out Hoi.out hom).mono ?_
      rintro e w2 ⟨rfl, hb2⟩
      have HB2 := Lib.hid (Hb.out.trans (hb2.mono Hb.out.size))
      have Hown2 := Lib.hid (Hown.out.kept (.of_below hb2 (Nat.le_refl _)))
      have Hoi2 := Lib.hid (Hoi.out.kept (.of_below hb2 (Nat.le_refl _)))
      obtain ⟨x, hx⟩ : ∃ x, x = c o := ⟨_, rfl⟩
      rw [← hx]
      have Hx := Lib.hid hx
      clear hx hom Hown Hoi hcell hb2
      by_cases h0 : k = 0
      · have h0i : ((k : Int) == 0) = true := beq_t (by omega)
        have HR := Lib.hid (show firstO c [] (L.take (k + 1)) = o by
          rw [HF.out, show L.take k = [] by rw [h0]; rfl]
          show stepO c [] o = o
          unfold stepO; exact if_pos (.inl rfl))
        have H0 := Lib.hid h0
        clear h0
        go_wp2
        go_roundw
        case rel => exact ⟨k + 1, x, hlt, by go_num, rfl, by rw [HR.out]; exact Hoi2.out, HB2.out, .inr (by rw [HR.out]; exact Hx.out)⟩
        case measure => simp [intOf]; omega
      · have h0i : ((k : Int) == 0) = false := beq_f (by omega)
        have HMm := Lib.hid (show m = c (firstO c [] (L.take k)) from HM.out.resolve_left h0)
        have hne := HN2.out (by omega)
        have Hne := Lib.hid hne
        clear hne
        by_cases hlm : x < m
        · have HR := Lib.hid (show firstO c [] (L.take (k + 1)) = o by
            rw [HF.out]
            unfold stepO
            exact if_pos (.inr (by rw [← HMm.out, ← Hx.out]; exact hlm)))
          go_wp2
          go_roundw
          case rel => exact ⟨k + 1, x, hlt, by go_num, rfl, by rw [HR.out]; exact Hoi2.out, HB2.out, .inr (by rw [HR.out]; exact Hx.out)⟩
          case measure => simp [intOf]; omega
        · have HR := Lib.hid (show firstO c [] (L.take (k + 1)) = firstO c [] (L.take k) by
            rw [HF.out]
            unfold stepO
            exact if_neg fun h => h.elim Hne.out fun h => hlm (by rw [HMm.out, Hx.out]; exact h))
          go_wp2
          go_roundw
          case rel => exact ⟨k + 1, m, hlt, by go_num, rfl, by rw [HR.out]; exact Hown2.out, HB2.out, .inr (by rw [HR.out]; exact HMm.out)⟩
          case measure => simp [intOf]; omega
    · have hke : k = L.length := by omega
      have hni : ¬ (k : Int) < (L.length : Int) := by omega
      have Ho := Lib.hid (show OwnI wr base 3 (.slice A3 (firstO c [] L).length c3) (firstO c [] L) by
        rw [hke, List.take_length] at hown; exact hown)
      have Hb := Lib.hid hb
      clear hown hb
      go_wp2
      go_ret
      exact ⟨_, rfl, Ho.out, Hb.out⟩
theorem Ints.takeK {w : World} {lo hi n c : Nat} {A : Option Addr} {xs : List Int} (h : Ints w lo hi (.slice A n c) xs) {i : Nat} (hi' : i ≤ xs.length) : Ints w lo hi (.slice A i c) (xs.take i) := by
  obtain ⟨A', c', e, hc, hm, ⟨hl, hr⟩, h64⟩ := h
  obtain ⟨rfl, rfl, rfl⟩ : A = A' ∧ n = xs.length ∧ c = c' := by simpa using e
  have hli : (xs.take i).length = i := by rw [List.length_take]; omega
  refine ⟨A, c, by rw [hli], by omega, hm, ⟨by simp, fun h0 => ?_⟩, fun x hx => h64 x (List.mem_of_mem_take hx)⟩
  rw [hli] at h0
  obtain ⟨b, o, e1, h1, h2, h3⟩ := hr (by omega)
  refine ⟨b, o, e1, h1, h2, fun j u hu => h3 j u ?_⟩
  rw [List.map_take, List.getElem?_take] at hu
  split at hu
  · exact hu
  · cases hu
set_option maxRecDepth 100000 in
set_option maxHeartbeats 1000000 in
theorem moves_le (lo hi l2 h2 : Nat) (v u : Value) (a b : List Int) (w : World) (h : Ints w lo hi v a) (hhi : hi ≤ w.heap.size) (hy : Ints w l2 h2 u b) (hh2 : h2 ≤ w.heap.size) (ha : vKn a = true) (hb : vKn b = true) (hl : a.length ≤ b.length) :
    Calls Try.prog 112 #[v, u] w fun e w' => e = .returned (.int .i64 (mvL a b)) ∧ Below w.heap.size w w' := by
  obtain ⟨A, c, rfl, hc, hm⟩ := h.form
  obtain ⟨B, d, rfl, hd, hm2⟩ := hy.form
  have hal := (vKn_iff.1 ha).1
  have hbl := (vKn_iff.1 hb).1
  have hlt' : ¬ (b.length : Int) < (a.length : Int) := by omega
  have HR := Lib.hid (show mvT a b a.length b.length = mvL a b by unfold mvL; rw [if_neg (by omega)])
  go_enter Try.func112, Try.ntmps112
  go_wp2_with fail
  refine (moveTable_any lo hi l2 h2 _ _ a b w h hhi hy hh2 ha hb).mono ?_
  rintro e w1 ⟨v1, rfl, hr, hb1⟩
  obtain ⟨m, hm9⟩ : ∃ m, m = a.length + 1 := ⟨_, rfl⟩
  obtain ⟨n, hn9⟩ : ∃ n, n = b.length + 1 := ⟨_, rfl⟩
  rw [← hm9, ← hn9] at hr
  obtain ⟨b1, o1, c1, b2, o2, c2, hv1, hcm, hcm2, hc1, hcn, hcn2, hc2⟩ := tab_at hr (i := a.length) (j := b.length) (by omega) (by omega)
  subst hv1
  have x0 : (0 : Int) ≤ (a.length : Int) := by omega
  have x1 : (a.length : Int) < (m : Int) := by omega
  have x2 : (0 : Int) ≤ (b.length : Int) := by omega
  have x3 : (b.length : Int) < (n : Int) := by omega
  rw [HR.out] at hc2
  have HB1 := Lib.hid hb1
  clear hr hb1 hm9 hn9
  go_wp2
  go_ret
  exact ⟨rfl, HB1.out⟩
theorem moves_any (lo hi l2 h2 : Nat) (v u : Value) (a b : List Int) (w : World) (h : Ints w lo hi v a) (hhi : hi ≤ w.heap.size) (hy : Ints w l2 h2 u b) (hh2 : h2 ≤ w.heap.size) (ha : vKn a = true) (hb : vKn b = true) :
    Calls Try.prog 112 #[v, u] w fun e w' => e = .returned (.int .i64 (mvL a b)) ∧ Below w.heap.size w w' := by
  by_cases hlt : b.length < a.length
  rotate_left
  · exact moves_le lo hi l2 h2 v u a b w h hhi hy hh2 ha hb (by omega)
  have HM := Lib.hid (moves_le l2 h2 lo hi u v b a w hy hh2 h hhi hb ha (by omega))
  obtain ⟨A, c, rfl, hc, hm⟩ := h.form
  obtain ⟨B, d, rfl, hd, hm2⟩ := hy.form
  have hlt' : (b.length : Int) < (a.length : Int) := by omega
  have HS := Lib.hid (mvL_swap hlt)
  go_enter Try.func112, Try.ntmps112
  go_wp2_with fail
  refine HM.out.mono ?_
  rintro e w1 ⟨rfl, hb1⟩
  have HB1 := Lib.hid hb1
  clear hb1
  go_wp2
  go_ret
  exact ⟨ret_int HS.out.symm, HB1.out⟩
theorem vSets_no {m : Nat} {L : List (List Int)} {k : Nat} (hk : k < L.length) (h : vKn (gr L k) = false) : vSets m L = false := by
  cases hv : vSets m L
  · rfl
  · have := (vSets_iff.1 hv).2 k hk; rw [h] at this; cases this
theorem vSets_long {m : Nat} {L : List (List Int)} (h : ¬ L.length ≤ m) : vSets m L = false := by
  cases hv : vSets m L
  · rfl
  · exact absurd (vSets_iff.1 hv).1 h
set_option maxRecDepth 100000 in
set_option maxHeartbeats 1000000 in
theorem ivalidSets_any (lo hi : Nat) (v : Value) (L : List (List Int)) (m : Nat) (w : World) (h : IRows w lo hi v L) :
    Calls Try.prog 56 #[v, .int .i64 m] w fun e w' => e = .returned (.bool (vSets m L)) ∧ w = w' := by
  obtain ⟨A, c, rfl, hc, hm⟩ := h.form
  by_cases hl : L.length ≤ m
  rotate_left
  · have hl' : (m : Int) < (L.length : Int) := by omega
    have hl2 : m < L.length := by omega
    have HR := Lib.hid (vSets_long hl)
    go_enter Try.func56, Try.ntmps56
    go_wp2
    go_ret
    exact ⟨ret_bool HR.out.symm, rfl⟩
  have hl' : ¬ (m : Int) < (L.length : Int) := by omega
  have hl2 : ¬ m < L.length := by omega
  go_enter Try.func56, Try.ntmps56
  go_wp2
  go_loop [6, 13] (fun _ i => ∃ k : Nat, k ≤ L.length ∧ i = .int .i64 k ∧ Hid (∀ j, j < k → vKn (gr L j) = true)) (fun _ i => L.length - (intOf i).toNat)
  case atStart => exact ⟨0, by omega, rfl, fun j hj => absurd hj (by omega)⟩
  case round =>
    obtain ⟨k, hk, rfl, HD⟩ := hrel
    by_cases hlt : k < L.length
    · obtain ⟨b, o, Ai, ci, rfl, _, _, hcell, hci, hci2, hint⟩ := h.row hlt
      have hk0 : (0 : Int) ≤ (k : Int) := by omega
      have hk1 : (k : Int) < (L.length : Int) := by omega
      go_wp2_with fail
      refine (ValidKnives_any _ _ _ _ w hint).mono ?_
      cases hv : vKn (gr L k)
      · have HR := Lib.hid (vSets_no (m := m) hlt hv)
        rintro e w9 ⟨rfl, rfl⟩
        go_wp2
        go_ret
        exact ⟨ret_bool HR.out.symm, rfl⟩
      · have HV := Lib.hid hv
        rintro e w9 ⟨rfl, rfl⟩
        clear hv
        go_wp2
        go_round
        case rel =>
          refine ⟨k + 1, by omega, by go_num, fun j hj => ?_⟩
          rcases Nat.lt_or_ge j k with h' | h'
          · exact HD.out j h'
          · obtain rfl : j = k := by omega
            exact HV.out
        case measure => simp [intOf]; omega
    · have HR := Lib.hid (show vSets m L = true from vSets_iff.2 ⟨hl, fun i hi => HD.out i (by omega)⟩)
      go_wp2
      go_ret
      exact ⟨ret_bool HR.out.symm, rfl⟩
set_option maxRecDepth 100000 in
set_option maxHeartbeats 1000000 in
theorem svalidSets_any (lo hi : Nat) (v : Value) (L : List (List Int)) (w : World) (h : IRows w lo hi v L) :
    Calls Try.prog 54 #[v] w fun e w' => e = .returned (.bool (vSets 10 L)) ∧ Qt w w' := by
  obtain ⟨A, c, rfl, hc, hm⟩ := h.form
  go_enter Try.func54, Try.ntmps54
  go_wp2
  go_loopw [3] (fun i wr => ∃ k : Nat, k ≤ L.length ∧ i = .int .i64 k ∧ Qt w wr ∧ Hid (∀ j, j < k → vKn (gr L j) = true)) (fun i _ => L.length - (intOf i).toNat)
  case atStart => exact ⟨0, by omega, rfl, Qt.refl _, fun j hj => absurd hj (by omega)⟩
  case round =>
    obtain ⟨k, hk, rfl, hq, HD⟩ := hrel
    by_cases hlt : k < L.length
    · obtain ⟨b, o, Ai, ci, rfl, _, _, hcell, hci, hci2, hint⟩ := (h.qt hq).row hlt
      have hk0 : (0 : Int) ≤ (k : Int) := by omega
      have hk1 : (k : Int) < (L.length : Int) := by omega
      go_wp2_with fail
      refine (validKnives_any _ _ _ _ wr hint).mono ?_
      cases hv : vKn (gr L k)
      · have HR := Lib.hid (vSets_no (m := 10) hlt hv)
        rintro e w9 ⟨rfl, q⟩
        go_wp2
        go_ret
        exact ⟨ret_bool HR.out.symm, hq.trans q⟩
      · have HV := Lib.hid hv
        rintro e w9 ⟨rfl, q⟩
        clear hv
        go_wp2
        go_roundw
        case rel =>
          refine ⟨k + 1, by omega, by go_num, hq.trans q, fun j hj => ?_⟩
          rcases Nat.lt_or_ge j k with h' | h'
          · exact HD.out j h'
          · obtain rfl : j = k := by omega
            exact HV.out
        case measure => simp [intOf]; omega
    · have HR := Lib.hid (show vSets 10 L = decide ((L.length : Int) ≤ 10) by
        by_cases hl : L.length ≤ 10
        · rw [decide_eq_true (by omega)]; exact vSets_iff.2 ⟨hl, fun i hi => HD.out i (by omega)⟩
        · rw [decide_eq_false (by omega)]; exact vSets_long hl)
      have hni : ¬ (k : Int) < (L.length : Int) := by omega
      go_wp2
      go_ret
      exact ⟨ret_bool HR.out.symm, hq⟩
/-- the indices of a whole order -/
theorem begun_at {n : Nat} {o : List Int} (h : Begun n o) {k : Nat} (hk : k < o.length) : ∃ i : Nat, gi o k = (i : Int) ∧ i < n := begunK_ex h _ (by rw [gi_eq hk]; exact List.getElem_mem hk)
theorem begun_new {n : Nat} {o : List Int} (h : Begun n o) {k : Nat} (hk : k < o.length) : inL (o.take k) (gi o k) = false := by
  cases hb : inL (o.take k) (gi o k)
  · rfl
  · have h1 := inL_mem.1 hb
    rw [gi_eq hk] at h1
    obtain ⟨j, hj, he⟩ := List.mem_iff_getElem.1 h1
    rw [List.getElem_take] at he
    rw [List.length_take] at hj
    exact absurd he (List.pairwise_iff_getElem.1 (List.nodup_iff_pairwise_ne.1 h.1) j k (by omega) hk (by omega))
set_option maxRecDepth 100000 in
set_option maxHeartbeats 1000000 in
theorem validOrder_yes (lo hi : Nat) (v : Value) (o : List Int) (n : Nat) (w : World) (h : Ints w lo hi v o) (hb : Begun n o) (hl : o.length = n) (hn : n ≤ 1000) :
    Calls Try.prog 69 #[v, .int .i64 n] w fun e w' => e = .returned (.bool true) ∧ w = w' := by
  obtain ⟨A, c, rfl, hc, hm⟩ := h.form
  have hne : ((o.length : Int) != (n : Int)) = false := bne_f (by omega)
  have hl1 : o.length ≤ n := Nat.le_of_eq hl
  have HB := Lib.hid hb
  clear hl hb
  go_enter Try.func69, Try.ntmps69
  go_wp2
  clear hne
  go_loop [5, 6, 13] (fun _ _ i => ∃ k : Nat, k ≤ o.length ∧ i = .int .i64 k) (fun _ _ i => o.length - (intOf i).toNat)
  case atStart => exact ⟨0, by omega, rfl⟩
  case round =>
    obtain ⟨k, hk, rfl⟩ := hrel
    by_cases hlt : k < o.length
    · obtain ⟨i, hi9, hin⟩ := begun_at HB.out hlt
      have HNW := Lib.hid (begun_new HB.out hlt)
      have HT := Lib.hid (h.takeK (i := k) (by omega))
      obtain ⟨b, oo, rfl, _, _, hcell, _⟩ := h.cell hlt
      rw [hi9] at hcell HNW
      have hk0 : (0 : Int) ≤ (k : Int) := by omega
      have hk1 : (k : Int) < (o.length : Int) := by omega
      have hk2 : (k : Int) ≤ (c : Int) := by omega
      have i0 : ¬ (i : Int) < 0 := by omega
      have i1 : ¬ (i : Int) ≥ (n : Int) := by omega
      have i2 : ¬ (n : Int) ≤ (i : Int) := by omega
      have i3 : ¬ n ≤ i := by omega
      clear hi9
      go_wp2_with fail
      refine (contains_any lo hi _ _ (i : Int) w HT.out).mono ?_
      rw [HNW.out]
      rintro e w9 ⟨rfl, rfl⟩
      go_wp2
      go_round
      case rel => exact ⟨k + 1, by omega, by go_num⟩
      case measure => simp [intOf]; omega
    · have hni : ¬ (k : Int) < (o.length : Int) := by omega
      go_wp2
      go_ret
      exact ⟨rfl, rfl⟩
end Go.Proofs.Yteckjiaaikdghaa
