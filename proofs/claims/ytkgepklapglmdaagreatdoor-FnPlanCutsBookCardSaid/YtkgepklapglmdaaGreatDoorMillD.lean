/-
  Lemmas and contracts of single functions of this program, used by the proofs of its laws: what each call returns and what becomes of memory. Conditions: the hypotheses of each theorem.
-/
import Derived.Test.YtkgepklapglmdaaGreatDoorMOX
namespace Go.Proofs.YtkgepklapglmdaaGreatDoor
open Go.RowKit
attribute [local go_sem ↓] Go.wp_at_zero Go.wp_at_succ

theorem lbs_drop {es : List Ent} {k : Nat} (h : k < es.length) : (lbs es).drop k = (ge es k).lb :: (lbs es).drop (k + 1) := by
  unfold lbs
  rw [← List.map_drop, ← List.map_drop, List.drop_eq_getElem_cons h, List.map_cons, ge_eq h]
theorem lbs_end {es : List Ent} {k : Nat} (h : es.length ≤ k) : (lbs es).drop k = [] := List.drop_eq_nil_of_le (by unfold lbs; rw [List.length_map]; exact h)
set_option maxHeartbeats 1000000 in
theorem entryOf_any (lo hi : Nat) (v : Value) (es : List Ent) (a b z lb : Int) (w : World) (h : ES w lo hi v es) (hhi : hi ≤ w.heap.size) :
    Calls Tryz.prog 34 #[.agg #[v, .int .i64 a, .int .i64 b, .int .i64 z], .int .i64 lb] w fun e w' => e = .returned (.int .i64 (entI es lb)) ∧ Below w.heap.size w w' := by
  obtain ⟨A, c, rfl, hc, hm⟩ := h.form
  have hes : ∀ w1, Below w.heap.size w w1 → ES w1 lo hi (.slice A es.length c) es := fun w1 hb => h.below hb hhi
  have Hs := Lib.hid (show ∃ w1, w1 = (w.alloc (.cells #[.slice A es.length c, .int .i64 a, .int .i64 b, .int .i64 z] 25)) ∧ Below w.heap.size w w1 ∧ w1.cell? ⟨w.heap.size, 0, none⟩ = some (.slice A es.length c) ∧ w1.cell? ⟨w.heap.size, 1, none⟩ = some (.int .i64 a) ∧ w1.cell? ⟨w.heap.size, 2, none⟩ = some (.int .i64 b) ∧ w1.cell? ⟨w.heap.size, 3, none⟩ = some (.int .i64 z) ∧ w.heap.size < w1.heap.size from by
    have hb : Below w.heap.size w (w.alloc (.cells #[.slice A es.length c, .int .i64 a, .int .i64 b, .int .i64 z] 25)) := (Below.refl _ _).alloc (Nat.le_refl _) _
    exact ⟨_, rfl, hb, by go_simp, by go_simp, by go_simp, by go_simp, by simp⟩)
  go_enter Tryz.func34, Tryz.ntmps34
  go_wp2
  obtain ⟨w1, hw1, hb0, c00, c01, c02, c03, hz⟩ := Hs.out
  rw [← hw1]
  clear hw1 Hs
  have he1 := hes w1 hb0
  clear hes h
  go_loop [5] (fun i => ∃ k : Nat, k ≤ es.length ∧ i = .int .i64 k ∧ Hid (entI es lb = plcFrom ((lbs es).drop k) lb k)) (fun i => es.length - (intOf i).toNat)
  case atStart => exact ⟨0, by omega, rfl, rfl⟩
  case round =>
    obtain ⟨k, hk, rfl, hno⟩ := hrel
    by_cases hlt : k < es.length
    · obtain ⟨b9, o, Ad, cd, Ap, cp, rfl, _, _, e0, e1, e2, e3, e4, _⟩ := he1.cell hlt
      have hk0 : (0 : Int) ≤ (k : Int) := by omega
      have hk1 : (k : Int) < (es.length : Int) := by omega
      have Hno := Lib.hid (hno.out.trans (by rw [lbs_drop hlt, plcFrom]))
      clear hno
      by_cases he : (ge es k).lb = lb
      · have hb9 : ((ge es k).lb == lb) = true := beq_t he
        have HR := Lib.hid (show entI es lb = (k : Int) by rw [Hno.out, if_pos he])
        clear he
        go_wp2
        go_ret
        exact ⟨ret_int (by rw [HR.out]), hb0⟩
      · have hb9 : ((ge es k).lb == lb) = false := beq_f he
        have HR : Hid (entI es lb = plcFrom ((lbs es).drop (k + 1)) lb (k + 1)) := Hno.out.trans (if_neg he)
        clear he
        go_wp2
        go_round
        case rel => exact ⟨k + 1, by omega, by go_num, HR⟩
        case measure => simp [intOf]; omega
    · have Hno := Lib.hid (hno.out.trans (by rw [lbs_end (by omega), plcFrom]))
      clear hno
      go_wp2
      go_ret
      exact ⟨ret_int Hno.out.symm, hb0⟩
theorem partArea_any (l r f t : Int) (w : World) (h1 : 0 ≤ l) (h2 : l ≤ r) (h3 : r ≤ 1000) (h4 : 0 ≤ f) (h5 : f ≤ t) (h6 : t ≤ 1000) :
    Calls Tryz.prog 146 #[.agg #[.int .i64 l, .int .i64 r, .int .i64 f, .int .i64 t]] w fun e w' => e = .returned (.int .i64 ((r - l) * (t - f))) ∧ Below w.heap.size w w' := by
  have b1 : 0 ≤ (r - l) * (t - f) := Int.mul_nonneg (by omega) (by omega)
  have b2 : (r - l) * (t - f) ≤ 1000 * 1000 := Int.mul_le_mul (by omega) (by omega) (by omega) (by omega)
  go_enter Tryz.func146, Tryz.ntmps146
  go_wp2
  go_ret
  exact ⟨rfl, (Below.refl _ _).alloc (Nat.le_refl _) _⟩
theorem OwnE.empty (w : World) (base s tE tD tP : Nat) (hb : base ≤ w.heap.size) (hs : w.heap.size < s) : OwnE (w.alloc (.cells #[] tE)) base s tE tD tP (.slice (some ⟨w.heap.size, 0, none⟩) 0 0) [] :=
  ⟨[], fun _ => undef, fun _ => undef, ⟨by simp, .inr ⟨w.heap.size, 0, _, rfl, hb, heap_alloc_new w _, Nat.le_refl _, by simp [maxLen], by simp, by simp⟩⟩, fun g hg => by
    have : g = w.heap.size := by simpa [Value.ownBlock] using hg.symm
    omega, fun k h => absurd h (by simp), fun _ k _ h => absurd h (by simp)⟩
/-- a store into a block of another type -/
theorem OwnE.setFar {w : World} {base s tE tD tP : Nat} {v : Value} {es : List Ent} (h : OwnE w base s tE tD tP v es) {p : Addr} {cs : Array Value} {t : TypeId} (hp : w.heap[p.block]? = some (.cells cs t (0, 0))) (h1 : tE ≠ t) (h2 : tD ≠ t) (h3 : tP ≠ t) (u : Value) : OwnE (w.setCell p u) base s tE tD tP v es := by
  obtain ⟨c9, vd, vp, k1, k2, k3, k4⟩ := h
  have far : ∀ (g e : Nat) (cur : Array Value), w.heap[g]? = some (.cells cur e (0, 0)) → e ≠ t → (w.setCell p u).heap[g]? = w.heap[g]? := fun g e cur hg hne => by
    have : ¬ p.block = g := fun e1 => by
      subst e1
      rw [hp] at hg
      simp at hg
      exact hne hg.2.symm
    simp only [World.setCell, Array.getElem?_modify, if_neg this]
  refine ⟨c9, vd, vp, ownsRow_keptBlock k1 fun g hg => by obtain ⟨cur, hc⟩ := own_home k1 hg; exact far g _ cur hc h1, k2, fun k hk => ?_, k4⟩
  obtain ⟨a, b, c, d⟩ := k3 k hk
  exact ⟨a, b, ⟨c.1.keptBlock fun g hg => by obtain ⟨cur, hc⟩ := own_home c.1.1 hg; exact far g _ cur hc h2, c.2⟩, ⟨d.1.keptBlock fun g hg => by obtain ⟨cur, hc⟩ := own_home d.1.1 hg; exact far g _ cur hc h3, d.2⟩⟩
/-- a block of cells stays one -/
theorem block_set {w : World} {q : Nat} {t : TypeId} (h : ∃ cs, w.heap[q]? = some (.cells cs t (0, 0))) (p : Addr) (u : Value) : ∃ cs, (w.setCell p u).heap[q]? = some (.cells cs t (0, 0)) := by
  obtain ⟨cs, h⟩ := h
  by_cases e : p.block = q
  · simp only [World.setCell, Array.getElem?_modify, if_pos e, h, Option.map_some]
    exact ⟨_, rfl⟩
  · exact ⟨cs, by simp only [World.setCell, Array.getElem?_modify, if_neg e]; exact h⟩
theorem OwnT.below {w w' : World} {base e k : Nat} {v : Value} {xs : List (List Int)} (h : OwnT w base e k v xs) (hb : Below w.heap.size w w') : OwnT w' base e k v xs := h.kept (.of_below hb (Nat.le_refl _))
theorem cell_set_alloc {w : World} {B i j : Nat} {X s : Value} {o : Obj} (hij : i ≠ j) (h : w.cell? ⟨B, j, none⟩ = some X) : ((w.setCell ⟨B, i, none⟩ s).alloc o).cell? ⟨B, j, none⟩ = some X := by
  have h1 : (w.setCell ⟨B, i, none⟩ s).cell? ⟨B, j, none⟩ = some X := by
    rw [World.cell?_setCell_other _ _ _ _ (fun e => hij (by injection e))]; exact h
  exact keepB ((Below.refl _ _).alloc (Nat.le_refl _) _) h1
theorem halt {p : Prop} (h : p) : p := h
/-- the walk leaves a goal of this name be -/
theorem halt2 {p : Prop} (roundEnd : p) (_t : True) : p := roundEnd
theorem OwnE.apart {w : World} {base s tE tD tP : Nat} {v : Value} {es : List Ent} (h : OwnE w base s tE tD tP v es) {B : Nat} {cs : Array Value} {t : TypeId} (hp : w.heap[B]? = some (.cells cs t (0, 0))) (h1 : tE ≠ t) : some B ≠ v.ownBlock := by
  obtain ⟨c9, vd, vp, k1, _⟩ := h
  intro e
  obtain ⟨cur, hc⟩ := own_home k1 e.symm
  rw [hp] at hc
  simp at hc
  exact h1 hc.2.symm
theorem block_same {w w' : World} {q : Nat} {t : TypeId} (h : ∃ cs, w.heap[q]? = some (.cells cs t (0, 0))) (e : w'.heap[q]? = w.heap[q]?) : ∃ cs, w'.heap[q]? = some (.cells cs t (0, 0)) := by
  obtain ⟨cs, h⟩ := h
  exact ⟨cs, e.trans h⟩
theorem cell_same {w w' : World} {B j : Nat} {X : Value} (e : w'.heap[B]? = w.heap[B]?) (h : w.cell? ⟨B, j, none⟩ = some X) : w'.cell? ⟨B, j, none⟩ = some X := (World.cell?_of_block e).trans h
theorem frozen_same {w w' : World} {B j : Nat} (e : w'.heap[B]? = w.heap[B]?) (h : w.frozen? ⟨B, j, none⟩ = false) : w'.frozen? ⟨B, j, none⟩ = false := (World.frozen?_of_block e).trans h
set_option maxRecDepth 100000 in
set_option maxHeartbeats 4000000 in
theorem copyMill_any (lo hi : Nat) (v : Value) (es : List Ent) (a b z : Int) (w : World) (h : ES w lo hi v es) (hhi : hi ≤ w.heap.size) (hl : es.length ≤ 1000) (hs : ∀ k, k < es.length → (ge es k).ds.length ≤ 1000 ∧ (ge es k).ps.length ≤ 1000) :
    Calls Tryz.prog 117 #[.agg #[v, .int .i64 a, .int .i64 b, .int .i64 z]] w fun e w' => ∃ v', e = .returned (.agg #[v', .int .i64 a, .int .i64 b, .int .i64 z]) ∧ OwnE w' w.heap.size w'.heap.size 58 92 38 v' es ∧ Below w.heap.size w w' := by
  obtain ⟨A, c, rfl, hc, hm⟩ := h.form
  have hes : ∀ w1, Below w.heap.size w w1 → ES w1 lo hi (.slice A es.length c) es := fun w1 hb => h.below hb hhi
  have HSz := Lib.hid hs
  clear hs
  have Hs := Lib.hid (show ∃ w1, w1 = ((w.alloc (.cells #[.slice A es.length c, .int .i64 a, .int .i64 b, .int .i64 z] 25)).alloc (.cells #[.slice none 0 0, .int .i64 0, .int .i64 0, .int .i64 0] 25)) ∧ Below w.heap.size w w1 ∧ w1.cell? ⟨w.heap.size, 0, none⟩ = some (.slice A es.length c) ∧ w1.cell? ⟨w.heap.size, 1, none⟩ = some (.int .i64 a) ∧ w1.cell? ⟨w.heap.size, 2, none⟩ = some (.int .i64 b) ∧ w1.cell? ⟨w.heap.size, 3, none⟩ = some (.int .i64 z) ∧ w1.cell? ⟨w.heap.size + 1, 0, none⟩ = some (.slice none 0 0) ∧ w1.cell? ⟨w.heap.size + 1, 1, none⟩ = some (.int .i64 0) ∧ w1.cell? ⟨w.heap.size + 1, 2, none⟩ = some (.int .i64 0) ∧ w1.cell? ⟨w.heap.size + 1, 3, none⟩ = some (.int .i64 0) ∧ w1.frozen? ⟨w.heap.size + 1, 0, none⟩ = false ∧ w1.frozen? ⟨w.heap.size + 1, 1, none⟩ = false ∧ w1.frozen? ⟨w.heap.size + 1, 2, none⟩ = false ∧ w1.frozen? ⟨w.heap.size + 1, 3, none⟩ = false ∧ w.heap.size + 1 < w1.heap.size from by
    have hb : Below w.heap.size w ((w.alloc (.cells #[.slice A es.length c, .int .i64 a, .int .i64 b, .int .i64 z] 25)).alloc (.cells #[.slice none 0 0, .int .i64 0, .int .i64 0, .int .i64 0] 25)) := ((Below.refl _ _).alloc (Nat.le_refl _) _).alloc (by simp) _
    exact ⟨_, rfl, hb, by go_simp, by go_simp, by go_simp, by go_simp, by go_simp, by go_simp, by go_simp, by go_simp, by go_simp, by go_simp, by go_simp, by go_simp, by simp⟩)
  go_enter Tryz.func117, Tryz.ntmps117
  go_wp2
  obtain ⟨w1, hw1, hb0, c00, c01, c02, c03, c10, c11, c12, c13, f10, f11, f12, f13, hz⟩ := Hs.out
  have HZ := Lib.hid (show w1.heap.size = w.heap.size + 1 + 1 by rw [hw1]; simp)
  rw [← hw1]
  clear hw1 Hs
  have he1 := hes w1 hb0
  clear hes h
  obtain ⟨w3, hw3⟩ : ∃ w3, w3 = (w1.alloc (.cells #[] 58)).alloc (.cells #[.slice (some ⟨w.heap.size + 1 + 1, 0, none⟩) 0 0, .int .i64 a, .int .i64 b, .int .i64 z] 25) := ⟨_, rfl⟩
  have b3 : Below w1.heap.size w1 w3 := by rw [hw3]; exact ((Below.refl _ _).alloc (Nat.le_refl _) _).alloc (by simp) _
  have q0 : w3.cell? ⟨w1.heap.size + 1, 0, none⟩ = some (.slice (some ⟨w.heap.size + 1 + 1, 0, none⟩) 0 0) := by rw [hw3]; go_simp
  have q1 : w3.cell? ⟨w1.heap.size + 1, 1, none⟩ = some (.int .i64 a) := by rw [hw3]; go_simp
  have q2 : w3.cell? ⟨w1.heap.size + 1, 2, none⟩ = some (.int .i64 b) := by rw [hw3]; go_simp
  have q3 : w3.cell? ⟨w1.heap.size + 1, 3, none⟩ = some (.int .i64 z) := by rw [hw3]; go_simp
  have fq0 : w3.frozen? ⟨w1.heap.size + 1, 0, none⟩ = false := by rw [hw3]; go_simp
  have HB : Hid (∃ cs, w3.heap[w1.heap.size + 1]? = some (.cells cs 25 (0, 0))) := by
    have := heap_alloc_new (w1.alloc (.cells #[] 58)) (.cells #[.slice (some ⟨w.heap.size + 1 + 1, 0, none⟩) 0 0, .int .i64 a, .int .i64 b, .int .i64 z] 25)
    rw [hw3]
    exact ⟨_, by simpa using this⟩
  have hz3 : w1.heap.size + 1 < w3.heap.size := by rw [hw3]; simp
  have ho : OwnE w3 w1.heap.size w3.heap.size 58 92 38 (.slice (some ⟨w1.heap.size, 0, none⟩) 0 0) [] := by
    rw [hw3]
    exact ((OwnE.empty w1 w1.heap.size (w1.heap.size + 1) _ _ _ (Nat.le_refl _) (by omega)).below ((Below.refl (w1.alloc (.cells #[] 58)).heap.size _).alloc (Nat.le_refl _) _) (by simp)).wide (Nat.le_refl _) (by simp)
  rw [HZ.out] at q0 q1 q2 q3 fq0 HB
  have ho2 : OwnE w3 w1.heap.size w3.heap.size 58 92 38 (.slice (some ⟨w.heap.size + 1 + 1, 0, none⟩) 0 0) [] := by
    have := ho; rw [HZ.out] at this ⊢; exact this
  rw [← hw3]
  clear hw3 ho
  go_loopw [4] (fun i wr => ∃ (k : Nat) (u : Value), k ≤ es.length ∧ i = .int .i64 k ∧ Below w1.heap.size w1 wr ∧ OwnE wr w1.heap.size wr.heap.size 58 92 38 u (es.take k) ∧ wr.cell? ⟨w.heap.size + 1 + 1 + 1, 0, none⟩ = some u ∧ wr.cell? ⟨w.heap.size + 1 + 1 + 1, 1, none⟩ = some (.int .i64 a) ∧ wr.cell? ⟨w.heap.size + 1 + 1 + 1, 2, none⟩ = some (.int .i64 b) ∧ wr.cell? ⟨w.heap.size + 1 + 1 + 1, 3, none⟩ = some (.int .i64 z) ∧ wr.frozen? ⟨w.heap.size + 1 + 1 + 1, 0, none⟩ = false ∧ Hid (∃ cs, wr.heap[w.heap.size + 1 + 1 + 1]? = some (.cells cs 25 (0, 0)))) (fun i _ => es.length - (intOf i).toNat)
  case atStart => exact ⟨0, _, by omega, rfl, b3, by rw [List.take_zero]; exact ho2, q0, q1, q2, q3, fq0, HB⟩
  case round =>
    clear q0 q1 q2 q3 fq0 HB b3 ho2
    obtain ⟨k, u, hk, rfl, bw, ho, q0, q1, q2, q3, fq0, HB⟩ := hrel
    have hzr := bw.size
    have hBz : w.heap.size + 1 + 1 + 1 < wr.heap.size := by obtain ⟨cs, hcs⟩ := HB.out; exact (Array.getElem?_eq_some_iff.1 hcs).1
    replace c00 := keepB bw c00; replace c01 := keepB bw c01; replace c02 := keepB bw c02; replace c03 := keepB bw c03; replace c10 := keepB bw c10; replace c11 := keepB bw c11; replace c12 := keepB bw c12; replace c13 := keepB bw c13
    replace f10 := keepF bw (by first | (simp; done) | (simp; omega)) f10; replace f11 := keepF bw (by first | (simp; done) | (simp; omega)) f11; replace f12 := keepF bw (by first | (simp; done) | (simp; omega)) f12; replace f13 := keepF bw (by first | (simp; done) | (simp; omega)) f13
    by_cases hlt : k < es.length
    · have her := he1.below bw (by omega)
      have h64 := her.e64 hlt
      obtain ⟨b9, o, Ad, cd, Ap, cp, rfl, hl9, hh9, e0, e1, e2, e3, e4, hd, hp, _⟩ := her.cell hlt
      have hk0 : (0 : Int) ≤ (k : Int) := by omega
      have hk1 : (k : Int) < (es.length : Int) := by omega
      have hsz := HSz.out k hlt
      obtain ⟨Au, cu, hu, hcu, hmu⟩ := ho.form
      rw [List.length_take, Nat.min_eq_left hk] at hu
      subst hu
      have Ho := Lib.hid ho
      have Hp := Lib.hid hp
      have Hd := Lib.hid hd
      have Hb := Lib.hid bw
      clear ho hd hp bw
      go_wp2_with (at_builtin; refine halt ?roundEnd)
      case roundEnd =>
        obtain ⟨x, hx⟩ : ∃ x, x = ((wr.alloc (.cells #[.int .i64 (ge es k).lb, .int .i64 (ge es k).W, .int .i64 (ge es k).L, .slice Ad (ge es k).ds.length cd, .slice Ap (ge es k).ps.length cp] 58)).alloc (.cells #[] 92)) := ⟨_, rfl⟩
        have bx : Below wr.heap.size wr x := by rw [hx]; exact ((Below.refl _ _).alloc (Nat.le_refl _) _).alloc (by simp) _
        have hxz : x.heap.size = wr.heap.size + 1 + 1 := by rw [hx]; simp
        have HOD := Lib.hid (show OwnT x (wr.heap.size + 1) 92 5 (.slice (some ⟨wr.heap.size + 1, 0, none⟩) 0 0) [] by
          have := OwnT.empty (wr.alloc (.cells #[.int .i64 (ge es k).lb, .int .i64 (ge es k).W, .int .i64 (ge es k).L, .slice Ad (ge es k).ds.length cd, .slice Ap (ge es k).ps.length cp] 58)) (wr.heap.size + 1) 92 5 (by simp)
          rw [hx]; simpa using this)
        have d0 : x.cell? ⟨wr.heap.size, 0, none⟩ = some (.int .i64 (ge es k).lb) := by rw [hx]; go_simp
        have d1 : x.cell? ⟨wr.heap.size, 1, none⟩ = some (.int .i64 (ge es k).W) := by rw [hx]; go_simp
        have d2 : x.cell? ⟨wr.heap.size, 2, none⟩ = some (.int .i64 (ge es k).L) := by rw [hx]; go_simp
        have d3 : x.cell? ⟨wr.heap.size, 3, none⟩ = some (.slice Ad (ge es k).ds.length cd) := by rw [hx]; go_simp
        have d4 : x.cell? ⟨wr.heap.size, 4, none⟩ = some (.slice Ap (ge es k).ps.length cp) := by rw [hx]; go_simp
        have fd3 : x.frozen? ⟨wr.heap.size, 3, none⟩ = false := by rw [hx]; go_simp
        have fd4 : x.frozen? ⟨wr.heap.size, 4, none⟩ = false := by rw [hx]; go_simp
        rw [← hx]
        clear hx e0 e1 e2 e3 e4
        refine wpList_appendTs SlDefect _ rfl (.tmp 26) (.tmp 29) rfl lo hi _ (wr.heap.size + 1) _ [] (ge es k).ds rfl rfl HOD.out (Hd.out.below bx (by omega)) (by simp; omega) (by simp; omega) (by omega) ?_
        intro v1 w2 od1 g1
        rw [List.nil_append] at od1
        obtain ⟨A1, c1, rfl, hc1, hm1⟩ := od1.form
        have bA := g1.below
        replace d0 := keepC bA (by first | (simp; done) | (simp; omega)) d0; replace d1 := keepC bA (by first | (simp; done) | (simp; omega)) d1; replace d2 := keepC bA (by first | (simp; done) | (simp; omega)) d2; replace d3 := keepC bA (by first | (simp; done) | (simp; omega)) d3; replace d4 := keepC bA (by first | (simp; done) | (simp; omega)) d4
        replace fd3 := keepF bA (by first | (simp; done) | (simp; omega)) fd3; replace fd4 := keepF bA (by first | (simp; done) | (simp; omega)) fd4
        have b2 := bx.trans (bA.mono (by omega))
        have hz2 := g1.size
        have r4 := cell_set_alloc (s := .slice A1 (ge es k).ds.length c1) (o := .cells #[] 38) (show 3 ≠ 4 by decide) d4
        have Od := Lib.hid od1
        have Hxz := Lib.hid hxz
        have hz2' : wr.heap.size + 1 + 1 ≤ w2.heap.size := by omega
        clear od1 g1 bA HOD bx hz2 hxz
        go_wp2_with (at_builtin; refine halt ?roundEnd)
        case roundEnd =>
          obtain ⟨w4, hw4⟩ : ∃ w4, w4 = w2.setCell ⟨wr.heap.size, 3, none⟩ (.slice A1 (ge es k).ds.length c1) := ⟨_, rfl⟩
          have hz4 : w4.heap.size = w2.heap.size := by rw [hw4]; simp [World.setCell]
          have b4 : Below wr.heap.size wr w4 := by rw [hw4]; exact b2.setCell (Nat.le_refl _) _
          have k0 : w4.cell? ⟨wr.heap.size, 0, none⟩ = some (.int .i64 (ge es k).lb) := by rw [hw4]; go_simp
          have k1 : w4.cell? ⟨wr.heap.size, 1, none⟩ = some (.int .i64 (ge es k).W) := by rw [hw4]; go_simp
          have k2 : w4.cell? ⟨wr.heap.size, 2, none⟩ = some (.int .i64 (ge es k).L) := by rw [hw4]; go_simp
          have k3 : w4.cell? ⟨wr.heap.size, 3, none⟩ = some (.slice A1 (ge es k).ds.length c1) := by rw [hw4]; go_simp
          have k4 : w4.cell? ⟨wr.heap.size, 4, none⟩ = some (.slice Ap (ge es k).ps.length cp) := by rw [hw4]; go_simp
          have fk4 : w4.frozen? ⟨wr.heap.size, 4, none⟩ = false := by rw [hw4]; go_simp
          have Od4 := Lib.hid (show OwnT w4 (wr.heap.size + 1) 92 5 (.slice A1 (ge es k).ds.length c1) (ge es k).ds by rw [hw4]; exact Od.out.setBelow (Nat.lt_succ_self wr.heap.size) _)
          have HOP := Lib.hid (show OwnT (w4.alloc (.cells #[] 38)) w4.heap.size 38 4 (.slice (some ⟨w2.heap.size, 0, none⟩) 0 0) [] by rw [← hz4]; exact OwnT.empty w4 w4.heap.size 38 4 (Nat.le_refl _))
          have b4a : Below wr.heap.size wr (w4.alloc (.cells #[] 38)) := b4.alloc (by omega) _
          rw [← hw4]
          clear hw4 d0 d1 d2 d3 d4 fd3 fd4 b2 r4 Od
          refine wpList_appendTs SlPart _ rfl (.tmp 33) (.tmp 35) rfl lo hi _ w4.heap.size _ [] (ge es k).ps rfl rfl HOP.out (Hp.out.below b4a (by omega)) (by simp; omega) (by simp; omega) (by simp) ?_
          intro v2 w5 op5 g2
          rw [List.nil_append] at op5
          obtain ⟨A2, c2, rfl, hc2, hm2⟩ := op5.form
          have b5 : Below w4.heap.size w4 w5 := ((Below.refl _ _).alloc (Nat.le_refl _) _).trans g2.below
          replace k0 := keepB b5 k0; replace k1 := keepB b5 k1; replace k2 := keepB b5 k2; replace k3 := keepB b5 k3; replace k4 := keepB b5 k4
          replace fk4 := keepF b5 (by first | (simp; done) | (simp; omega)) fk4
          have by5 := b4.trans (b5.mono (by omega))
          have hz5 := b5.size
          have Od5 := Lib.hid (Od4.out.below b5)
          have Op5 := Lib.hid op5
          have Hz4 := Lib.hid hz4
          clear op5 g2 b5 b4 b4a Od4 HOP hz4
          replace q0 := keepB by5 q0; replace q1 := keepB by5 q1; replace q2 := keepB by5 q2; replace q3 := keepB by5 q3
          replace fq0 := keepF by5 (by first | (simp; done) | (simp; omega)) fq0
          have hneB : ¬ wr.heap.size = w.heap.size + 1 + 1 + 1 := by omega
          have hneB2 : ¬ w.heap.size + 1 + 1 + 1 = wr.heap.size := by omega
          have HB5 := Lib.hid (block_same HB.out (by5.block _ hBz))
          have By5 := Lib.hid by5
          clear by5 HB
          go_wp2_with (at_builtin; refine halt ?roundEnd)
          case roundEnd =>
            obtain ⟨w6, hw6⟩ : ∃ w6, w6 = w5.setCell ⟨wr.heap.size, 4, none⟩ (.slice A2 (ge es k).ps.length c2) := ⟨_, rfl⟩
            have hz6 : w6.heap.size = w5.heap.size := by rw [hw6]; simp [World.setCell]
            have b6 : Below wr.heap.size wr w6 := by rw [hw6]; exact By5.out.setCell (Nat.le_refl _) _
            have Od6 := Lib.hid (show OwnT w6 wr.heap.size 92 5 (.slice A1 (ge es k).ds.length c1) (ge es k).ds by rw [hw6]; exact (Od5.out.setBelow (Nat.lt_succ_self wr.heap.size) _).base (by omega))
            have Op6 := Lib.hid (show OwnT w6 wr.heap.size 38 4 (.slice A2 (ge es k).ps.length c2) (ge es k).ps by rw [hw6]; exact (Op5.out.setBelow (by show wr.heap.size < w4.heap.size; have := Hz4.out; omega) _).base (by have := Hz4.out; omega))
            have e6 : w6.heap[w.heap.size + 1 + 1 + 1]? = w5.heap[w.heap.size + 1 + 1 + 1]? := by rw [hw6]; simp only [World.setCell, Array.getElem?_modify, if_neg hneB]
            replace q0 := cell_same e6 q0
            replace q1 := cell_same e6 q1
            replace q2 := cell_same e6 q2
            replace q3 := cell_same e6 q3
            replace fq0 := frozen_same e6 fq0
            have HB6 := block_same HB5.out e6
            have Ho6 := Lib.hid (Ho.out.below b6 (Nat.le_refl _))
            have Hb6 := Lib.hid (Hb.out.trans (b6.mono hzr))
            have h99 : wr.heap.size ≤ w6.heap.size := by have := Hz4.out; omega
            have h9 : w.heap.size + 1 + 1 + 1 < w6.heap.size := by omega
            rw [← hw6, ← hz6]
            clear hw6 k0 k1 k2 k3 k4 fk4 Od5 Op5 HB5 By5 Ho Hb b6 e6
            refine wpList_appendE SlEntry _ rfl (.tmp 39) (.tmp 41) rfl (ge es k) _ _ w1.heap.size wr.heap.size 92 38 _ (es.take k) rfl rfl Ho6.out (by decide) (by decide) h64 Od6.out Op6.out (by omega) (by omega) (by rw [List.length_take]; omega) ?_
            intro v3 w9 ho9 g9
            rw [← take_ge hlt] at ho9
            obtain ⟨cs6, hcs6⟩ := HB6
            have e9 := g9.other _ h9 (Ho6.out.apart hcs6 (by decide))
            replace q0 := cell_same e9 q0
            replace q1 := cell_same e9 q1
            replace q2 := cell_same e9 q2
            replace q3 := cell_same e9 q3
            replace fq0 := frozen_same e9 fq0
            have Hc9 := Lib.hid (e9.trans hcs6)
            have Hb9 := Lib.hid (Hb6.out.trans g9.below)
            obtain ⟨A9, c9, hv9, _⟩ := ho9.form
            rw [List.length_take, Nat.min_eq_left (show k + 1 ≤ es.length by omega)] at hv9
            subst hv9
            have Ho9 := Lib.hid ho9
            have Hz9 := Lib.hid g9.size
            clear e9 hcs6 ho9 g9 Ho6 Hb6 Od6 Op6
            have HX : ∀ u : Value, ∃ w10, w10 = w9.setCell ⟨w.heap.size + 1 + 1 + 1, 0, none⟩ u ∧ Below w1.heap.size w1 w10 ∧ OwnE w10 w1.heap.size w10.heap.size 58 92 38 (.slice A9 (k + 1) c9) (es.take (k + 1)) ∧ (∃ cs, w10.heap[w.heap.size + 1 + 1 + 1]? = some (.cells cs 25 (0, 0))) := fun u => by
              refine ⟨_, rfl, Hb9.out.setCell (p := ⟨_, _, _⟩) (by show w1.heap.size ≤ w.heap.size + 1 + 1 + 1; have := HZ.out; omega) _, ?_, block_set ⟨_, Hc9.out⟩ _ _⟩
              have := Ho9.out.setFar (p := ⟨w.heap.size + 1 + 1 + 1, 0, none⟩) Hc9.out (by decide) (by decide) (by decide) u
              simpa [World.setCell] using this
            obtain ⟨w10, hw10, z1, z2, z3⟩ := HX (.slice A9 (k + 1) c9)
            have Hw10 := Lib.hid hw10
            have Hz1 := Lib.hid z1
            have Hz2 := Lib.hid z2
            have Hz3 := Lib.hid z3
            clear hw10 z1 z2 z3 HX
            go_wp2
            go_roundw
            case rel =>
              rw [← Hw10.out]
              refine ⟨k + 1, _, by omega, by go_num, Hz1.out, Hz2.out, ?_, ?_, ?_, ?_, ?_, Hz3.out⟩
              · rw [Hw10.out]; go_simp
              · rw [Hw10.out]; go_simp
              · rw [Hw10.out]; go_simp
              · rw [Hw10.out]; go_simp
              · rw [Hw10.out]; go_simp
            case measure => simp [intOf]; omega
    · have He := Lib.hid (show k = es.length by omega)
      obtain ⟨Au, cu, hu, hcu, hmu⟩ := ho.form
      rw [List.length_take, Nat.min_eq_left hk] at hu
      subst hu
      have Ho := Lib.hid ho
      have Hb := Lib.hid (hb0.trans (bw.mono (by omega)))
      clear ho bw HB
      go_wp2
      refine bodyPost_ret (v := .agg #[.slice Au k cu, .int .i64 a, .int .i64 b, .int .i64 z]) (by simp [results, Tryz.results117, go_sem, *]) rfl ⟨_, rfl, ?_, ?_⟩
      · have key := Ho.out.kept (w' := ((((wr.setCell ⟨w.heap.size + 1, 0, none⟩ (.slice Au k cu)).setCell ⟨w.heap.size + 1, 1, none⟩ (.int .i64 a)).setCell ⟨w.heap.size + 1, 2, none⟩ (.int .i64 b)).setCell ⟨w.heap.size + 1, 3, none⟩ (.int .i64 z))) (fun g hg _ => by
          have := HZ.out
          simp only [World.setCell, Array.getElem?_modify, if_neg (show ¬ w.heap.size + 1 = g by omega)])
        rw [He.out, List.take_length] at key
        rw [He.out]
        exact key.wide (by omega) (by simp [World.setCell])
      · exact (((Hb.out.setCell (p := ⟨_, _, _⟩) (by simp) _).setCell (p := ⟨_, _, _⟩) (by simp) _).setCell (p := ⟨_, _, _⟩) (by simp) _).setCell (p := ⟨_, _, _⟩) (by simp) _
end Go.Proofs.YtkgepklapglmdaaGreatDoor
