/-
  Lemmas and contracts of single functions of this program, used by the proofs of its laws: what each call returns and what becomes of memory. Conditions: the hypotheses of each theorem.
-/
import Derived.Test.YtkgepklapglmdaaMillO
namespace Go.Proofs.Ytkgepklapglmdaa
open Go.RowKit
attribute [local go_sem ↓] Go.wp_at_zero Go.wp_at_succ

theorem lbs_drop {es : List Ent} {k : Nat} (h : k < es.length) : (lbs es).drop k = (ge es k).lb :: (lbs es).drop (k + 1) := by
  unfold lbs
  rw [← List.map_drop, ← List.map_drop, List.drop_eq_getElem_cons h, List.map_cons, ge_eq h]
theorem lbs_end {es : List Ent} {k : Nat} (h : es.length ≤ k) : (lbs es).drop k = [] := List.drop_eq_nil_of_le (by unfold lbs; rw [List.length_map]; exact h)
set_option maxHeartbeats 1000000 in
theorem entryOf_any (lo hi : Nat) (v : Value) (es : List Ent) (a b z lb : Int) (w : World) (h : ES w lo hi v es) (hhi : hi ≤ w.heap.size) :
    Calls Try.prog 26 #[.agg #[v, .int .i64 a, .int .i64 b, .int .i64 z], .int .i64 lb] w fun e w' => e = .returned (.int .i64 (entI es lb)) ∧ Below w.heap.size w w' := by
  obtain ⟨A, c, rfl, hc, hm⟩ := h.form
  have hes : ∀ w1, Below w.heap.size w w1 → ES w1 lo hi (.slice A es.length c) es := fun w1 hb => h.below hb hhi
  have Hs := Lib.hid (show ∃ w1, w1 = (w.alloc (.cells #[.slice A es.length c, .int .i64 a, .int .i64 b, .int .i64 z] 32)) ∧ Below w.heap.size w w1 ∧ w1.cell? ⟨w.heap.size, 0, none⟩ = some (.slice A es.length c) ∧ w1.cell? ⟨w.heap.size, 1, none⟩ = some (.int .i64 a) ∧ w1.cell? ⟨w.heap.size, 2, none⟩ = some (.int .i64 b) ∧ w1.cell? ⟨w.heap.size, 3, none⟩ = some (.int .i64 z) ∧ w.heap.size < w1.heap.size from by
    have hb : Below w.heap.size w (w.alloc (.cells #[.slice A es.length c, .int .i64 a, .int .i64 b, .int .i64 z] 32)) := (Below.refl _ _).alloc (Nat.le_refl _) _
    exact ⟨_, rfl, hb, by go_simp, by go_simp, by go_simp, by go_simp, by simp⟩)
  go_enter Try.func26, Try.ntmps26
  go_wp2
  obtain ⟨w1, hw1, hb0, c00, c01, c02, c03, hz⟩ := Hs.out
  rw [← hw1]
  clear hw1 Hs
  have he1 := hes w1 hb0
  clear hes h
  go_loop [5] (fun i => ∃ k : Nat, k ≤ es.length ∧ i = .int .i64 k ∧ Hid (entI es lb = plcFrom ((lbs es).drop k) lb k)) (fun i => es.length - (intOf i).toNat)
  case atStart => exact ⟨0, by omega, rfl, rfl⟩
  case round =>
    obtain ⟨k, hk, rfl, hno⟩ := hrel
    by_cases hlt : k < es.length
    · obtain ⟨b9, o, Ad, cd, Ap, cp, rfl, _, _, e0, e1, e2, e3, e4, _⟩ := he1.cell hlt
      have hk0 : (0 : Int) ≤ (k : Int) := by omega
      have hk1 : (k : Int) < (es.length : Int) := by omega
      have Hno := Lib.hid (hno.out.trans (by rw [lbs_drop hlt, plcFrom]))
      clear hno
      by_cases he : (ge es k).lb = lb
      · have hb9 : ((ge es k).lb == lb) = true := beq_t he
        have HR := Lib.hid (show entI es lb = (k : Int) by rw [Hno.out, if_pos he])
        clear he
        go_wp2
        go_ret
        exact ⟨ret_int (by rw [HR.out]), hb0⟩
      · have hb9 : ((ge es k).lb == lb) = false := beq_f he
        have HR : Hid (entI es lb = plcFrom ((lbs es).drop (k + 1)) lb (k + 1)) := Hno.out.trans (if_neg he)
        clear he
        go_wp2
        go_round
        case rel => exact ⟨k + 1, by omega, by go_num, HR⟩
        case measure => simp [intOf]; omega
    · have Hno := Lib.hid (hno.out.trans (by rw [lbs_end (by omega), plcFrom]))
      clear hno
      go_wp2
      go_ret
      exact ⟨ret_int Hno.out.symm, hb0⟩
theorem OwnE.empty (w : World) (base s tE tD tP : Nat) (hb : base ≤ w.heap.size) (hs : w.heap.size < s) : OwnE (w.alloc (.cells #[] tE)) base s tE tD tP (.slice (some ⟨w.heap.size, 0, none⟩) 0 0) [] :=
  ⟨[], fun _ => undef, fun _ => undef, ⟨by simp, .inr ⟨w.heap.size, 0, _, rfl, hb, heap_alloc_new w _, Nat.le_refl _, by simp [maxLen], by simp, by simp⟩⟩, fun g hg => by
    have : g = w.heap.size := by simpa [Value.ownBlock] using hg.symm
    omega, fun k h => absurd h (by simp), fun _ k _ h => absurd h (by simp)⟩
/-- a store into a block of another type -/
theorem OwnE.setFar {w : World} {base s tE tD tP : Nat} {v : Value} {es : List Ent} (h : OwnE w base s tE tD tP v es) {p : Addr} {cs : Array Value} {t : TypeId} (hp : w.heap[p.block]? = some (.cells cs t (0, 0))) (h1 : tE ≠ t) (h2 : tD ≠ t) (h3 : tP ≠ t) (u : Value) : OwnE (w.setCell p u) base s tE tD tP v es := by
  obtain ⟨c9, vd, vp, k1, k2, k3, k4⟩ := h
  have far : ∀ (g e : Nat) (cur : Array Value), w.heap[g]? = some (.cells cur e (0, 0)) → e ≠ t → (w.setCell p u).heap[g]? = w.heap[g]? := fun g e cur hg hne => by
    have : ¬ p.block = g := fun e1 => by
      subst e1
      rw [hp] at hg
      simp at hg
      exact hne hg.2.symm
    simp only [World.setCell, Array.getElem?_modify, if_neg this]
  refine ⟨c9, vd, vp, ownsRow_keptBlock k1 fun g hg => by obtain ⟨cur, hc⟩ := own_home k1 hg; exact far g _ cur hc h1, k2, fun k hk => ?_, k4⟩
  obtain ⟨a, b, c, d⟩ := k3 k hk
  exact ⟨a, b, ⟨c.1.keptBlock fun g hg => by obtain ⟨cur, hc⟩ := own_home c.1.1 hg; exact far g _ cur hc h2, c.2⟩, ⟨d.1.keptBlock fun g hg => by obtain ⟨cur, hc⟩ := own_home d.1.1 hg; exact far g _ cur hc h3, d.2⟩⟩
/-- a block of cells stays one -/
theorem block_set {w : World} {q : Nat} {t : TypeId} (h : ∃ cs, w.heap[q]? = some (.cells cs t (0, 0))) (p : Addr) (u : Value) : ∃ cs, (w.setCell p u).heap[q]? = some (.cells cs t (0, 0)) := by
  obtain ⟨cs, h⟩ := h
  by_cases e : p.block = q
  · simp only [World.setCell, Array.getElem?_modify, if_pos e, h, Option.map_some]
    exact ⟨_, rfl⟩
  · exact ⟨cs, by simp only [World.setCell, Array.getElem?_modify, if_neg e]; exact h⟩
theorem OwnT.below {w w' : World} {base e k : Nat} {v : Value} {xs : List (List Int)} (h : OwnT w base e k v xs) (hb : Below w.heap.size w w') : OwnT w' base e k v xs := h.kept (.of_below hb (Nat.le_refl _))
theorem OwnE.apart {w : World} {base s tE tD tP : Nat} {v : Value} {es : List Ent} (h : OwnE w base s tE tD tP v es) {B : Nat} {cs : Array Value} {t : TypeId} (hp : w.heap[B]? = some (.cells cs t (0, 0))) (h1 : tE ≠ t) : some B ≠ v.ownBlock := by
  obtain ⟨c9, vd, vp, k1, _⟩ := h
  intro e
  obtain ⟨cur, hc⟩ := own_home k1 e.symm
  rw [hp] at hc
  simp at hc
  exact h1 hc.2.symm
theorem cell_same {w w' : World} {B j : Nat} {X : Value} (e : w'.heap[B]? = w.heap[B]?) (h : w.cell? ⟨B, j, none⟩ = some X) : w'.cell? ⟨B, j, none⟩ = some X := (World.cell?_of_block e).trans h
theorem frozen_same {w w' : World} {B j : Nat} (e : w'.heap[B]? = w.heap[B]?) (h : w.frozen? ⟨B, j, none⟩ = false) : w'.frozen? ⟨B, j, none⟩ = false := (World.frozen?_of_block e).trans h
end Go.Proofs.Ytkgepklapglmdaa
