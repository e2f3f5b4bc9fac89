/-
  Lemmas and contracts of single functions of this program, used by the proofs of its laws: what each call returns and what becomes of memory. Conditions: the hypotheses of each theorem.
-/
import Derived.Test.YteckjiaaikdghaaOrdQ
import Derived.Test.YteckjiaaikdghaaLibA
import Derived.Test.YteckjiaaikdghaaRegLast
import Derived.Deep.AppendLies
namespace Go.Proofs.Yteckjiaaikdghaa
open Go.RowKit
attribute [local go_sem ↓] Go.wp_at_zero Go.wp_at_succ

theorem step_appendR {P : Program} {t e tI : TypeId} (S : SlT P t e (.slice none 0 0) 1 24) (hte : e ≠ tI) {ops : Array Oper} {o : Oper} {a : Act} {K : Act → World → Prop} {Q : Exit → Act → World → Prop} {E : Prop} (w : World) (hgd : o.guard = none) (s x : Operand)
    (ho : o.op = .call { callee := .builtin .append, args := #[s, x], argTypes := #[t, t] }) (A : Option Addr) (m c : Nat)
    (base sz : Nat) (v : Value) (xss : List (List Int)) (ys : List Int) (hs : a.eval s = v) (hx : a.eval x = .slice (some ⟨w.heap.size, 0, none⟩) 1 1) (hown : OwnR w base sz e tI v xss) (hu : OwnI w sz tI (.slice A m c) ys)
    (hn : xss.length ≤ 1099511627776) (hb : base ≤ sz) (hsz : sz ≤ w.heap.size)
    (h : ∀ v' w', OwnR w' base w'.heap.size e tI v' (xss ++ [ys]) → Grew base v v' w w' → K (a.put o.dst v') w') :
    if Region.wanted o (yielded ops a.tmps) = true then Oper.wp P o a (w.alloc (.cells #[.slice A m c] e)) K Q else E := by
  obtain ⟨vs, h1, h2, h3, h4⟩ := hown
  have hvl := ownsRow_len h1
  obtain ⟨i, hi, hz1, hz2, hz3⟩ := info_parts S.hi
  refine step_append_lies (w.alloc _) hgd s x t ho base e i _ 1 24 S.ht hi hz1 hz2 hz3 S.hz S.hs v xss.length vs hs (h1.alloc _) ⟨w.heap.size, 0, none⟩ 1 1 [.slice A m c] hx (by simp)
    (fun j u hu => cells_at_new (w := w) (e := e) (cs := #[.slice A m c]) (j := j) (u := u) (by simpa using hu)) (by simp [Value.oneCell']) (by omega) (by unfold maxLen; omega) (by omega) (by simp; omega) _ rfl fun g cap w' k1 k2 _ _ => ?_
  have kold : ∀ k, k < w.heap.size → some k ≠ v.ownBlock → w'.heap[k]? = w.heap[k]? := fun k hk hne => by
    rw [k2.block k (by simp; omega) hne]
    exact Below.heap_alloc w _ k hk
  have hz : w.heap.size + 1 ≤ w'.heap.size := by have := k2.size; simpa using this
  refine h _ w' ⟨vs ++ [.slice A m c], by simpa using k1, fun g' hg => (k1.lt g' hg).2, fun k hk => ?_, fun j k hjk hk g' hg => ?_⟩ ⟨((Below.refl base w).alloc (by omega) _).grown k2 (by simp; omega) fun j hj => (h1.lt j hj).1, by omega, kold⟩
  · rw [List.length_append, List.length_singleton] at hk
    by_cases hkl : k < xss.length
    · rw [gv_append_lt (by omega), gr_append_lt hkl]
      refine ⟨(h3 k hkl).1.keptBlock fun g hg => kold g ((h3 k hkl).1.lt g hg).2 fun e => own_types h1 (h3 k hkl).1.1 hte e.symm hg, fun g hg => ?_⟩
      have := (h3 k hkl).2 g hg
      omega
    · have hke : k = xss.length := by omega
      subst hke
      rw [gr_append_eq]
      rw [← hvl, gv_append_eq]
      refine ⟨(hu.base hb).keptBlock fun g hg => kold g (hu.lt g hg).2 fun e => own_types h1 hu.1 hte e.symm hg, fun g hg => ?_⟩
      have := (hu.lt g hg).2
      omega
  · rw [List.length_append, List.length_singleton] at hk
    rw [gv_append_lt (by omega)] at hg
    by_cases hkl : k < xss.length
    · rw [gv_append_lt (by omega)]
      exact h4 j k hjk hkl g' hg
    · have hke : k = vs.length := by omega
      subst hke
      rw [gv_append_eq]
      intro e
      have := (hu.lt g' e).1
      have := (h3 j (by omega)).2 g' hg
      omega
theorem OwnI.prefix2 {w : World} {base e n c : Nat} {A : Option Addr} {xs ys : List Int} (h : OwnI w base e (.slice A n c) (xs ++ ys)) : OwnI w base e (.slice A xs.length c) xs := by
  refine ⟨⟨by simp, ?_⟩, fun x hx => h.2 x (List.mem_append.2 (.inl hx))⟩
  rcases h.1.2 with ⟨e1, h0⟩ | ⟨g, cap, cur, e1, hb, hg, hnc, hcm, hcs, ht⟩
  · injection e1 with e2 e3 e4
    subst e2
    rw [List.length_append] at h0
    have : xs = [] := List.eq_nil_of_length_eq_zero (by omega)
    subst this
    exact .inl ⟨by rw [e4]; rfl, rfl⟩
  · injection e1 with e2 e3 e4
    subst e2 e4
    rw [List.length_append] at hnc
    refine .inr ⟨g, c, cur, rfl, hb, hg, by omega, hcm, hcs, ?_⟩
    have := congrArg (List.take xs.length) ht
    rw [List.take_take, List.length_append] at this
    rw [show min xs.length ((xs.length + ys.length) * 1) = xs.length by omega] at this
    rw [Nat.mul_one, this]
    simp
/-- the state of the closure that grows orders: n at h, the orders at h + 1, the order's block h + 2, the order at o, the closure at o + 1 -/
structure GrS (w : World) (tS tI kf h o n : Nat) (pre : List Int) (acc : List (List Int)) : Prop where
  ord : h + 3 ≤ o
  size : o + 2 ≤ w.heap.size
  cN : w.cell? ⟨h, 0, none⟩ = some (.int .i64 n)
  cO : w.cell? ⟨o, 0, none⟩ = some (.slice (some ⟨h + 2, 0, none⟩) pre.length n)
  fO : w.frozen? ⟨o, 0, none⟩ = false
  cG : w.cell? ⟨o + 1, 0, none⟩ = some (.func (.func kf) #[] #[.pointer (some ⟨o, 0, none⟩), .pointer (some ⟨h, 0, none⟩), .pointer (some ⟨h + 1, 0, none⟩), .pointer (some ⟨o + 1, 0, none⟩)])
  own : OwnI w (h + 2) tI (.slice (some ⟨h + 2, 0, none⟩) pre.length n) pre
  fS : w.frozen? ⟨h + 1, 0, none⟩ = false
  rows : ∃ v, w.cell? ⟨h + 1, 0, none⟩ = some v ∧ OwnR w (o + 2) w.heap.size tS tI v acc
/-- only new blocks beyond, and the three that the closure writes -/
theorem GrS.later {w w' : World} {tS tI kf h o n : Nat} {pre : List Int} {acc : List (List Int)} (g : GrS w tS tI kf h o n pre acc) (hb : Below w.heap.size w w') : GrS w' tS tI kf h o n pre acc := by
  obtain ⟨oz, z, n1, o1, o2, g1, w1, s1, v, s2, s3⟩ := g
  exact ⟨oz, by have := hb.size; omega, (hb.cell (by show h < _; omega)).trans n1, (hb.cell (by show o < _; omega)).trans o1, (hb.frozen (by show o < _; omega)).trans o2, (hb.cell (by show o + 1 < _; omega)).trans g1,
    w1.kept (.of_below hb (Nat.le_refl _)), (hb.frozen (by show h + 1 < _; omega)).trans s1, v, (hb.cell (by show h + 1 < _; omega)).trans s2, (s3.kept (.of_below hb (Nat.le_refl _))).wide (Nat.le_refl _) hb.size⟩
/-- 'append(v, x)' within the capacity -/
theorem wpList_appendF {P : Program} {t e : TypeId} (S : SlT P t e (.int .i64 0) 1 8) {ops : Array Oper} {rest : List Oper} {o : Oper} {a : Act} {Q : Exit → Act → World → Prop} (w : World) (hgd : o.guard = none) (s x : Operand)
    (ho : o.op = .call { callee := .builtin .append, args := #[s, x], argTypes := #[t, t] }) (y : Int)
    (base g k cap : Nat) (xs : List Int) (hs : a.eval s = .slice (some ⟨g, 0, none⟩) k cap) (hx : a.eval x = .slice (some ⟨w.heap.size, 0, none⟩) 1 1) (hown : OwnI w base e (.slice (some ⟨g, 0, none⟩) k cap) xs) (hy : I64 y)
    (hroom : k + 1 ≤ cap) (hb : base ≤ w.heap.size)
    (h : ∀ w', OwnI w' base e (.slice (some ⟨g, 0, none⟩) (k + 1) cap) (xs ++ [y]) → Grew base (.slice (some ⟨g, 0, none⟩) k cap) (.slice (some ⟨g, 0, none⟩) (k + 1) cap) w w' → w.heap.size < w'.heap.size → wpList P ops Q rest (a.put o.dst (.slice (some ⟨g, 0, none⟩) (k + 1) cap)) w') :
    wpList P ops Q (o :: rest) a (w.alloc (.cells #[.int .i64 y] e)) := by
  obtain ⟨i, hi, hz1, hz2, hz3⟩ := info_parts S.hi
  have hk : k = xs.length := by
    obtain ⟨A, c', e1, _⟩ := hown.form
    injection e1
  subst hk
  refine wpList_append_fits (w.alloc _) hgd s x t ho base e i 1 S.ht hi hz2 g xs.length cap (xs.map (.int .i64)) hs (hown.1.alloc _) ⟨w.heap.size, 0, none⟩ 1 1 [.int .i64 y] hx (by simp)
    (fun j u hu => cells_at_new (w := w) (e := e) (cs := #[.int .i64 y]) (j := j) (u := u) (by simpa using hu)) (by simp [Value.oneCell']) hroom fun w' k1 k2 => h w' ⟨by simpa using k1, fun z hz => ?_⟩ ⟨((Below.refl base w).alloc hb _).grown k2 (by simp; omega) fun j hj => (hown.lt j hj).1, by have := k2.size; simp at this; omega, fun j hj hne => ?_⟩ (by have := k2.size; simp at this; omega)
  · rcases List.mem_append.1 hz with hz | hz
    · exact hown.2 z hz
    · rw [List.mem_singleton.1 hz]; exact hy
  · rw [k2.block j (by simp; omega) hne]
    exact Below.heap_alloc w _ j hj
/-- behind a store into the orders' variable, into the order's variable -/
theorem GrS.mkS {w : World} {tS tI kf h o n : Nat} {pre : List Int} {acc : List (List Int)} {v x : Value} (oz : h + 3 ≤ o) (z : o + 2 ≤ w.heap.size) (cN : w.cell? ⟨h, 0, none⟩ = some (.int .i64 n)) (cO : w.cell? ⟨o, 0, none⟩ = some (.slice (some ⟨h + 2, 0, none⟩) pre.length n)) (fO : w.frozen? ⟨o, 0, none⟩ = false)
    (cG : w.cell? ⟨o + 1, 0, none⟩ = some (.func (.func kf) #[] #[.pointer (some ⟨o, 0, none⟩), .pointer (some ⟨h, 0, none⟩), .pointer (some ⟨h + 1, 0, none⟩), .pointer (some ⟨o + 1, 0, none⟩)])) (own : OwnI w (h + 2) tI (.slice (some ⟨h + 2, 0, none⟩) pre.length n) pre)
    (cS : w.cell? ⟨h + 1, 0, none⟩ = some x) (fS : w.frozen? ⟨h + 1, 0, none⟩ = false) (ho : OwnR w (o + 2) w.heap.size tS tI v acc) : GrS (w.setCell ⟨h + 1, 0, none⟩ v) tS tI kf h o n pre acc := by
  have e1 : ∀ k, k ≠ h + 1 → (w.setCell ⟨h + 1, 0, none⟩ v).heap[k]? = w.heap[k]? := fun k hk => Below.heap_setCell w _ _ k hk
  have hz : (w.setCell ⟨h + 1, 0, none⟩ v).heap.size = w.heap.size := by simp [World.setCell]
  refine ⟨oz, by omega, (World.cell?_of_block (e1 h (by omega))).trans cN, (World.cell?_of_block (e1 (o) (by omega))).trans cO, (World.frozen?_of_block (e1 (o) (by omega))).trans fO, (World.cell?_of_block (e1 (o + 1) (by omega))).trans cG, own.keptBlock fun g hg => e1 g ?_, ?_, v, ?_, ?_⟩
  · simp [Value.ownBlock] at hg; omega
  · go_simp
  · go_simp
  · rw [hz]; exact ho.kept fun k hk _ => e1 k (by omega)
theorem GrS.mkO {w : World} {tS tI kf h o n : Nat} {pre : List Int} {acc : List (List Int)} {x : Value} (oz : h + 3 ≤ o) (z : o + 2 ≤ w.heap.size) (cN : w.cell? ⟨h, 0, none⟩ = some (.int .i64 n)) (cO : w.cell? ⟨o, 0, none⟩ = some x) (fO : w.frozen? ⟨o, 0, none⟩ = false)
    (cG : w.cell? ⟨o + 1, 0, none⟩ = some (.func (.func kf) #[] #[.pointer (some ⟨o, 0, none⟩), .pointer (some ⟨h, 0, none⟩), .pointer (some ⟨h + 1, 0, none⟩), .pointer (some ⟨o + 1, 0, none⟩)])) (own : OwnI w (h + 2) tI (.slice (some ⟨h + 2, 0, none⟩) pre.length n) pre)
    (fS : w.frozen? ⟨h + 1, 0, none⟩ = false) (hS : ∃ v, w.cell? ⟨h + 1, 0, none⟩ = some v ∧ OwnR w (o + 2) w.heap.size tS tI v acc) : GrS (w.setCell ⟨o, 0, none⟩ (.slice (some ⟨h + 2, 0, none⟩) pre.length n)) tS tI kf h o n pre acc := by
  have e1 : ∀ k, k ≠ o → (w.setCell ⟨o, 0, none⟩ (.slice (some ⟨h + 2, 0, none⟩) pre.length n)).heap[k]? = w.heap[k]? := fun k hk => Below.heap_setCell w _ _ k hk
  have hz : (w.setCell ⟨o, 0, none⟩ (.slice (some ⟨h + 2, 0, none⟩) pre.length n)).heap.size = w.heap.size := by simp [World.setCell]
  obtain ⟨v, cS, ho⟩ := hS
  refine ⟨oz, by omega, (World.cell?_of_block (e1 h (by omega))).trans cN, ?_, ?_, (World.cell?_of_block (e1 (o + 1) (by omega))).trans cG, own.keptBlock fun g hg => e1 g ?_, (World.frozen?_of_block (e1 (h + 1) (by omega))).trans fS, v, (World.cell?_of_block (e1 (h + 1) (by omega))).trans cS, ?_⟩
  · go_simp
  · go_simp
  · simp [Value.ownBlock] at hg; omega
  · rw [hz]; exact ho.kept fun k hk _ => e1 k (by omega)
set_option maxRecDepth 100000 in
set_option maxHeartbeats 2000000 in
theorem grow_any (h o n : Nat) (hn : n ≤ 5) : ∀ (d : Nat) (pre : List Int) (acc : List (List Int)) (w : World), pre.length + d = n → GrS w 22 3 93 h o n pre acc → acc.length + (allO n d pre).length ≤ 100000 →
    Calls Try.prog 93 #[.pointer (some ⟨o, 0, none⟩), .pointer (some ⟨h, 0, none⟩), .pointer (some ⟨h + 1, 0, none⟩), .pointer (some ⟨o + 1, 0, none⟩)] w fun e w' => e = .returned (.tuple #[]) ∧ GrS w' 22 3 93 h o n pre (acc ++ allO n d pre) ∧ Below h w w'
  | 0, pre, acc, w, hl, hg, hc => by
    obtain ⟨oz, z, cN, cO, fO, cG, own, fS, vS, cS, hS⟩ := hg
    have hpl1 : pre.length ≤ n := Nat.le_of_eq hl
    have hpl2 : n ≤ pre.length := Nat.le_of_eq hl.symm
    have heq : ((pre.length : Int) == (n : Int)) = true := beq_t (by omega)
    have HL := Lib.hid hl
    clear hl
    have hfo := hS.form
    obtain ⟨A, c, rfl, hac, _⟩ := hfo
    have hal : acc.length ≤ 100000 := by omega
    have Hown := Lib.hid own
    have HS := Lib.hid hS
    clear own hS hc
    go_enter Try.func93, Try.ntmps93
    go_wp2
    refine wp_region_last (S := fun w' => w'.cell? ⟨h + 1, 0, none⟩ = some (.slice A acc.length c) ∧ w'.cell? ⟨o, 0, none⟩ = some (.slice (some ⟨h + 2, 0, none⟩) pre.length n)) 5 (by kernel_rfl) ?_ (fun hHeld => ?_)
    · (first | (try dsimp only); go_keep | (go_split_ands; refine ⟨?_, ?_⟩ <;> first | exact keepB bx5 (by assumption) | exact keepB bx4 (by assumption) | exact keepB bx3 (by assumption) | exact keepB bx2 (by assumption) | exact keepB bx1 (by assumption) | exact keepO bo5 (by first | (simp; done) | (simp; omega)) (by assumption) | exact keepO bo4 (by first | (simp; done) | (simp; omega)) (by assumption) | exact keepO bo3 (by first | (simp; done) | (simp; omega)) (by assumption) | exact keepO bo2 (by first | (simp; done) | (simp; omega)) (by assumption) | exact keepO bo1 (by first | (simp; done) | (simp; omega)) (by assumption) | exact keepW bg2 (by first | (simp; done) | (simp; omega)) (by assumption) | exact keepW bg1 (by first | (simp; done) | (simp; omega)) (by assumption) | assumption))
    refine AnyL.take (i := 0) (oi := ⟨some 9, _, _, _, _, _⟩) (v := _) rfl (by kernel_rfl) (by kernel_rfl) (by kernel_rfl) (by kernel_rfl) (fun _ _ _ h => h) (Or.inl ⟨by kernel_rfl, by intro w hSw; (try dsimp only at hSw); go_simp; try with_reducible rfl⟩) (by assumption) ?_
    simp only [Act.put, List.setIfInBounds_toArray, List.set_cons_zero, List.set_cons_succ]
    refine AnyL.take (i := 1) (oi := ⟨some 10, _, _, _, _, _⟩) (v := _) rfl (by kernel_rfl) (by kernel_rfl) (by kernel_rfl) (by kernel_rfl) (fun _ _ _ h => h) (Or.inl ⟨by kernel_rfl, by intro w hSw; (try dsimp only at hSw); go_simp; try with_reducible rfl⟩) (by assumption) ?_
    simp only [Act.put, List.setIfInBounds_toArray, List.set_cons_zero, List.set_cons_succ]
    refine AnyL.one (i := 2) (o := ⟨some 11, _, _, _, _, _⟩) (by kernel_rfl) rfl (fun K hK => ?_)
    go_simp
    go_at_call 63
    refine (clone_any _ _ _ _ w.drew Hown.out.drew.ints (by omega)).mono ?_
    rintro e w1 ⟨v1, rfl, ho1, hb1⟩
    obtain ⟨A1, c1, rfl, _, _⟩ := ho1.form
    have bx1 := of_drew hb1
    replace cS := keepB bx1 cS
    replace cO := keepB bx1 cO
    replace cN := keepB bx1 cN
    replace cG := keepB bx1 cG
    replace fS := (bx1.frozen (by show h + 1 < _; omega)).trans fS
    replace fO := (bx1.frozen (by show o < _; omega)).trans fO
    go_wp2_with fail
    refine hK.out _ _ ?_ (fun hHeld2 => ?_)
    · (first | (try dsimp only); go_keep | (go_split_ands; refine ⟨?_, ?_⟩ <;> first | exact keepB bx5 (by assumption) | exact keepB bx4 (by assumption) | exact keepB bx3 (by assumption) | exact keepB bx2 (by assumption) | exact keepB bx1 (by assumption) | exact keepO bo5 (by first | (simp; done) | (simp; omega)) (by assumption) | exact keepO bo4 (by first | (simp; done) | (simp; omega)) (by assumption) | exact keepO bo3 (by first | (simp; done) | (simp; omega)) (by assumption) | exact keepO bo2 (by first | (simp; done) | (simp; omega)) (by assumption) | exact keepO bo1 (by first | (simp; done) | (simp; omega)) (by assumption) | exact keepW bg2 (by first | (simp; done) | (simp; omega)) (by assumption) | exact keepW bg1 (by first | (simp; done) | (simp; omega)) (by assumption) | assumption))
    clear hK K hHeld
    have hHeld := hHeld2
    clear hHeld2
    try simp only [Act.put, List.setIfInBounds_toArray, List.set_cons_zero, List.set_cons_succ]
    refine AnyL.one (i := 3) (o := ⟨some 12, _, _, _, _, _⟩) (by kernel_rfl) rfl (fun K hK => ?_)
    go_simp
    refine hK.out _ _ ?_ (fun hHeld2 => ?_)
    · (first | (try dsimp only); go_keep | (go_split_ands; refine ⟨?_, ?_⟩ <;> first | exact keepB bx5 (by assumption) | exact keepB bx4 (by assumption) | exact keepB bx3 (by assumption) | exact keepB bx2 (by assumption) | exact keepB bx1 (by assumption) | exact keepO bo5 (by first | (simp; done) | (simp; omega)) (by assumption) | exact keepO bo4 (by first | (simp; done) | (simp; omega)) (by assumption) | exact keepO bo3 (by first | (simp; done) | (simp; omega)) (by assumption) | exact keepO bo2 (by first | (simp; done) | (simp; omega)) (by assumption) | exact keepO bo1 (by first | (simp; done) | (simp; omega)) (by assumption) | exact keepW bg2 (by first | (simp; done) | (simp; omega)) (by assumption) | exact keepW bg1 (by first | (simp; done) | (simp; omega)) (by assumption) | assumption))
    clear hK K hHeld
    have hHeld := hHeld2
    clear hHeld2
    try simp only [Act.put, List.setIfInBounds_toArray, List.set_cons_zero, List.set_cons_succ]
    refine AnyL.one (i := 4) (o := ⟨some 13, _, _, _, _, _⟩) (by kernel_rfl) rfl (fun K hK => ?_)
    refine step_appendR SlR (by decide) w1 rfl (.tmp 9) (.tmp 12) rfl _ _ _ (o + 2) w.heap.size _ acc pre (by rfl) (by rfl) (HS.out.kept (.of_below (of_drew hb1) (Nat.le_refl _))) ho1 (by omega) (by omega) (by have := hb1.size; simpa using this) ?_
    intro v2 w2 ho2 hg2
    obtain ⟨A2, c2, rfl, hac2, _⟩ := ho2.form
    have bx2 := hg2.below
    replace cS := keepC bx2 (by show h + 1 < _; omega) cS
    replace cO := keepC bx2 (by show o < _; omega) cO
    replace cN := keepC bx2 (by show h < _; omega) cN
    replace cG := keepC bx2 (by show o + 1 < _; omega) cG
    replace fS := (bx2.frozen (by show h + 1 < _; omega)).trans fS
    replace fO := (bx2.frozen (by show o < _; omega)).trans fO
    refine hK.out _ _ ?_ (fun hHeld2 => ?_)
    · (first | (try dsimp only); go_keep | (go_split_ands; refine ⟨?_, ?_⟩ <;> first | exact keepB bx5 (by assumption) | exact keepB bx4 (by assumption) | exact keepB bx3 (by assumption) | exact keepB bx2 (by assumption) | exact keepB bx1 (by assumption) | exact keepO bo5 (by first | (simp; done) | (simp; omega)) (by assumption) | exact keepO bo4 (by first | (simp; done) | (simp; omega)) (by assumption) | exact keepO bo3 (by first | (simp; done) | (simp; omega)) (by assumption) | exact keepO bo2 (by first | (simp; done) | (simp; omega)) (by assumption) | exact keepO bo1 (by first | (simp; done) | (simp; omega)) (by assumption) | exact keepW bg2 (by first | (simp; done) | (simp; omega)) (by assumption) | exact keepW bg1 (by first | (simp; done) | (simp; omega)) (by assumption) | assumption))
    clear hK K hHeld
    have hHeld := hHeld2
    clear hHeld2
    try simp only [Act.put, List.setIfInBounds_toArray, List.set_cons_zero, List.set_cons_succ]
    refine AnyL.last (o := ⟨none, _, _, _, _, _⟩) (by kernel_rfl) rfl (by kernel_rfl) (fun K hK => ?_)
    go_simp
    refine hK.out _ _ ?_
    clear hK K hHeld
    have HO2 := Lib.hid ho2
    have hz1 := bx1.size
    have hz2 := hg2.size
    have HI := Lib.hid ((Hown.out.kept (.of_below bx1 (Nat.le_refl _))).keptBlock (w' := w2) fun g hg => bx2.block g (by simp [Value.ownBlock] at hg; omega))
    have HB := Lib.hid ((bx1.mono (show h ≤ w.heap.size by omega)).trans (bx2.mono (show h ≤ o + 2 by omega)))
    clear ho2 hg2 ho1 hb1 bx1 bx2
    go_wp2
    first
      | refine bodyPost_ret (v := .tuple #[]) (by simp [results, go_sem, *]) rfl ?_
      | refine bodyPost_end (v := .tuple #[]) (by simp [results, go_sem, *]) rfl ?_
    have h9 := GrS.mkS (tS := 22) (kf := 93) oz (by omega) cN cO fO cG HI.out cS fS HO2.out
    refine ⟨rfl, ?_, HB.out.setCell (by show h ≤ h + 1; omega) _⟩
    simpa [allO] using h9
  | d + 1, pre, acc, w, hl, hg, hc => by
    have ih := grow_any h o n hn d
    have hlt0 : pre.length < n := by omega
    have heq : ((pre.length : Int) == (n : Int)) = false := beq_f (by omega)
    obtain ⟨oz, z, cN, cO, fO, cG, own, fS, vS, cS, hS⟩ := id hg
    have Hg := Lib.hid hg
    have HL := Lib.hid hl
    clear own hS hg hl
    go_enter Try.func93, Try.ntmps93
    go_wp2
    go_loopw [4, 15] (fun _ i wr => ∃ (k : Nat) (ac : List (List Int)), k ≤ n ∧ i = .int .i64 k ∧ GrS wr 22 3 93 h o n pre ac ∧ Below h w wr ∧ Hid (acc ++ allO n (d + 1) pre = ac ++ (restK n pre k).flatMap fun x => allO n d (pre ++ [x]))) (fun _ i _ => n - (intOf i).toNat)
    case atStart => exact ⟨0, acc, Nat.zero_le _, rfl, Hg.out, Below.refl _ _, rfl⟩
    case round =>
      obtain ⟨k, ac, hk, rfl, hg, hb, HE⟩ := hrel
      clear cN cO fO cG cS fS Hg
      obtain ⟨_, zr, cN, cO, fO, cG, own, fS, vS, cS, hS⟩ := id hg
      have Hg := Lib.hid hg
      have Hb := Lib.hid hb
      have Hown := Lib.hid own
      have HS := Lib.hid hS
      clear hg hb own hS
      by_cases hlt : k < n
      · have hk0 : (0 : Int) ≤ (k : Int) := by omega
        have hk1 : (k : Int) < (n : Int) := by omega
        have HK := Lib.hid (restK_step pre hlt)
        go_wp2_with fail
        refine (contains_any (h + 2) _ _ pre k _ Hown.out.ints).mono ?_
        cases hin : inL pre (k : Int)
        · rintro e w1 ⟨rfl, rfl⟩
          have HK2 := Lib.hid (show restK n pre k = (k : Int) :: restK n pre (k + 1) by rw [HK.out, hin]; rfl)
          clear hin HK
          have HRow : Hid (∃ v, wr.cell? ⟨h + 1, 0, none⟩ = some v ∧ OwnR wr (o + 2) wr.heap.size 22 3 v ac) := ⟨vS, cS, HS.out⟩
          go_wp2_with (at_builtin; refine wpList_appendF SlI _ rfl (.tmp 21) (.tmp 23) rfl (k : Int) (h + 2) (h + 2) pre.length n pre rfl rfl Hown.out ⟨by omega, by omega⟩ (by omega) (by omega) ?_; intro w2 ho2 hg2 hz2; have bx2 := hg2.below; have hx2 := hg2.other; replace cN := keepC bx2 (by show h < _; omega) cN; replace fS := (bx2.frozen (by show h + 1 < _; omega)).trans fS; replace cS := keepC bx2 (by show h + 1 < _; omega) cS; replace fO := (World.frozen?_of_block (hx2 (o) (by omega) (by simp [Value.ownBlock]; omega))).trans fO; replace cO := (World.cell?_of_block (hx2 (o) (by omega) (by simp [Value.ownBlock]; omega))).trans cO; replace cG := (World.cell?_of_block (hx2 (o + 1) (by omega) (by simp [Value.ownBlock]; omega))).trans cG; have Ho2 := Lib.hid ho2; have Hx2 := Lib.hid hx2; have Hb2 := Lib.hid bx2; clear ho2 hg2 bx2 hx2)
          have hpx : (pre ++ [(k : Int)]).length = pre.length + 1 := by simp
          have hz2' : wr.heap.size < w2.heap.size := hz2
          have HRow2 : ∃ v, w2.cell? ⟨h + 1, 0, none⟩ = some v ∧ OwnR w2 (o + 2) w2.heap.size 22 3 v ac := ⟨vS, cS, (HS.out.kept fun j hj1 hj2 => Hx2.out j hj2 (by simp [Value.ownBlock]; omega)).wide (Nat.le_refl _) (by omega)⟩
          have HG2 := GrS.mkO (pre := pre ++ [(k : Int)]) oz (by omega) cN cO fO cG (by rw [hpx]; exact Ho2.out) fS HRow2
          rw [hpx] at HG2
          have hlen : ac.length + (allO n d (pre ++ [(k : Int)])).length ≤ 100000 := by
            have h8 := congrArg List.length HE.out
            rw [HK2.out, List.flatMap_cons, List.length_append, List.length_append, List.length_append] at h8
            omega
          refine (ih (pre ++ [(k : Int)]) ac _ (by have := HL.out; rw [hpx]; omega) HG2 hlen).mono ?_
          have HB2 := Lib.hid ((Hb.out.trans (Hb2.out.mono (show h ≤ h + 2 by omega))).setCell (p := ⟨o, 0, none⟩) (by show h ≤ o; omega) (.slice (some ⟨h + 2, 0, none⟩) (pre.length + 1) n))
          have HE2 := Lib.hid (show acc ++ allO n (d + 1) pre = (ac ++ allO n d (pre ++ [(k : Int)])) ++ (restK n pre (k + 1)).flatMap fun x => allO n d (pre ++ [x]) by
            rw [HE.out, HK2.out, List.flatMap_cons, List.append_assoc])
          clear hlen HG2 HRow2 hz2 hz2' HE HK2 Ho2 Hx2 Hb2 cN cO fO cG cS fS HRow HS Hown Hg Hb zr
          rintro e w3 ⟨rfl, hg3, hb3⟩
          obtain ⟨_, zr, cN, cO, fO, cG, own, fS, hS⟩ := hg3
          rw [hpx] at cO own
          have Hown3 := Lib.hid own
          have HS3 := Lib.hid hS
          have HB3 := Lib.hid (HB2.out.trans hb3)
          clear own hS hb3 hpx HB2
          go_wp2
          go_roundw
          case rel =>
            have h9 := GrS.mkO oz (by omega) cN cO fO cG Hown3.out.prefix2 fS HS3.out
            exact ⟨k + 1, ac ++ allO n d (pre ++ [(k : Int)]), hlt, by go_num, h9, HB3.out.setCell (by show h ≤ o; omega) _, HE2.out⟩
          case measure => simp [intOf]; omega
        · rintro e w1 ⟨rfl, rfl⟩
          have HK2 := Lib.hid (show restK n pre k = restK n pre (k + 1) by rw [HK.out, hin]; rfl)
          clear hin HK
          go_wp2
          go_roundw
          case rel => exact ⟨k + 1, ac, hlt, by go_num, Hg.out, Hb.out, by rw [← HK2.out]; exact HE.out⟩
          case measure => simp [intOf]; omega
      · have hke : k = n := by omega
        have hni : ¬ (k : Int) < (n : Int) := by omega
        go_wp2
        first
          | refine bodyPost_ret (v := .tuple #[]) (by simp [results, go_sem, *]) rfl ?_
          | refine bodyPost_end (v := .tuple #[]) (by simp [results, go_sem, *]) rfl ?_
        have h9 := HE.out
        rw [restK_end pre (by omega), List.flatMap_nil, List.append_nil] at h9
        rw [h9]
        exact ⟨rfl, Hg.out, Hb.out⟩
end Go.Proofs.Yteckjiaaikdghaa
