/-
  Lemmas and contracts of single functions of this program, used by the proofs of its laws: what each call returns and what becomes of memory. Conditions: the hypotheses of each theorem.
-/
import Derived.Test.YtlabekemifccaaaDoorMillK
import Derived.Test.YtlabekemifccaaaDoorMillS
namespace Go.Proofs.YtlabekemifccaaaDoor
open Go.RowKit
attribute [local go_sem ↓] Go.wp_at_zero Go.wp_at_succ

theorem ES.setFar {w : World} {lo hi : Nat} {v : Value} {es : List Ent} (h : ES w lo hi v es) {p : Addr} (hp : p.block < lo ∨ hi ≤ p.block) (u : Value) : ES (w.setCell p u) lo hi v es :=
  h.kept fun q h1 h2 => by simp only [World.setCell, Array.getElem?_modify, if_neg (show ¬ p.block = q by omega)]
/-- a book that was drawn, and the mill behind it -/
def BkPost (B k n g tE : Nat) (v : Value) (w : World) (e : Ending) (w' : World) : Prop :=
  ∃ (vs u : Value) (evs : List Evt) (m : Mil) (k2 : Nat), e = .returned (.tuple #[vs, .agg #[u, .int .i64 m.a, .int .i64 m.b, .int .i64 m.z]]) ∧ OwnT w' w.heap.size tE 7 vs (evT evs) ∧ ES w' w.heap.size w'.heap.size u m.es ∧
    runB Mil.nil evs = some m ∧ m.ok = true ∧ evs.length ≤ 20 ∧ k2 ≤ k + n ∧ Rdr w' B k2 g v ∧ w.grownBy w' (some g)
theorem wpList_appendT2 {P : Program} {t e : TypeId} {z : Value} {k bytes : Nat} (S : SlT P t e z k bytes) {ops : Array Oper} {rest : List Oper} {o : Oper} {a : Act} {Q : Exit → Act → World → Prop} (w : World) (hgd : o.guard = none) (s x : Operand)
    (ho : o.op = .call { callee := .builtin .append, args := #[s, x], argTypes := #[t, t] }) (y : List Int) (cs : Array Value) (hcs : cs = (y.map (Value.int .i64)).toArray)
    (base : Nat) (v : Value) (xss : List (List Int)) (hs : a.eval s = v) (hx : a.eval x = .slice (some ⟨w.heap.size, 0, none⟩) 1 1) (hown : OwnT w base e k v xss) (hy : y.length = k ∧ ∀ n ∈ y, I64 n)
    (hn : (xss.length + 1) * bytes ≤ 140737488355328) (hn2 : xss.length ≤ 1099511627776) (hb : base ≤ w.heap.size)
    (h : ∀ v' w', OwnT w' base e k v' (xss ++ [y]) → Grew base v v' w w' → (v'.ownBlock = v.ownBlock ∨ v'.ownBlock = some (w.heap.size + 1)) → wpList P ops Q rest (a.put o.dst v') w') :
    wpList P ops Q (o :: rest) a (w.alloc (.cells cs e)) :=
  wpList_plain hgd fun _ hK => wp_appendT' S w s x ho y cs hcs base v xss hs hx hown hy hn hn2 hb fun v' w' k1 k2 k3 => hK _ _ (h v' w' k1 k2 k3)
theorem i64_7 {k lb l r f t g : Int} (h : V64 ⟨k, lb, l, r, f, t, g⟩) : ∀ n ∈ [k, lb, l, r, f, t, g], I64 n := fun n hn => by
  obtain ⟨h1, h2, h3, h4, h5, h6, h7⟩ := h
  simp only [List.mem_cons, List.not_mem_nil, or_false] at hn
  rcases hn with rfl | rfl | rfl | rfl | rfl | rfl | rfl <;> assumption
theorem applyEvent_no (lo hi : Nat) (v : Value) (m : Mil) (ev : Evt) (w : World) (h : ES w lo hi v m.es) (hhi : hi ≤ w.heap.size) (hok : m.ok = true) (h64 : V64 ev) (hn : apE m ev = none) :
    Calls Tryd.prog 64 #[.agg #[v, .int .i64 m.a, .int .i64 m.b, .int .i64 m.z], .agg #[.int .i64 ev.k, .int .i64 ev.lb, .int .i64 ev.l, .int .i64 ev.r, .int .i64 ev.f, .int .i64 ev.t, .int .i64 ev.g]] w fun e w' =>
      ∃ A n c, e = .returned (.tuple #[.agg #[.slice A n c, .int .i64 0, .int .i64 0, .int .i64 0], .bool false]) ∧ Below w.heap.size w w' := by
  refine (applyEvent_any lo hi v m ev w h hhi hok h64).mono ?_
  rintro e w' ⟨u, rfl, he, hb⟩
  obtain ⟨A, c, rfl, _⟩ := he.form
  rw [hn]
  exact ⟨A, _, c, rfl, hb⟩
theorem applyEvent_yes (lo hi : Nat) (v : Value) (m m' : Mil) (ev : Evt) (w : World) (h : ES w lo hi v m.es) (hhi : hi ≤ w.heap.size) (hok : m.ok = true) (h64 : V64 ev) (hn : apE m ev = some m') :
    Calls Tryd.prog 64 #[.agg #[v, .int .i64 m.a, .int .i64 m.b, .int .i64 m.z], .agg #[.int .i64 ev.k, .int .i64 ev.lb, .int .i64 ev.l, .int .i64 ev.r, .int .i64 ev.f, .int .i64 ev.t, .int .i64 ev.g]] w fun e w' =>
      ∃ A n c, e = .returned (.tuple #[.agg #[.slice A n c, .int .i64 m'.a, .int .i64 m'.b, .int .i64 m'.z], .bool true]) ∧ n = m'.es.length ∧ ES w' w.heap.size w'.heap.size (.slice A n c) m'.es ∧ Below w.heap.size w w' := by
  refine (applyEvent_any lo hi v m ev w h hhi hok h64).mono ?_
  rintro e w' ⟨u, rfl, he, hb⟩
  obtain ⟨A, c, rfl, _⟩ := he.form
  rw [hn] at he ⊢
  exact ⟨A, _, c, rfl, rfl, he, hb⟩
theorem SlEvent : SlT Tryd.prog 39 29 (.agg #[.int .i64 0, .int .i64 0, .int .i64 0, .int .i64 0, .int .i64 0, .int .i64 0, .int .i64 0]) 7 56 := ⟨Tryd.underlying39, by kernel_rfl, rfl, by omega⟩
set_option maxRecDepth 100000 in
set_option maxHeartbeats 4000000 in
theorem someBook_any (B k g : Nat) (v : Value) (w : World) (h : Rdr w B k g v) (hk : k ≤ 600000) :
    Calls Tryd.prog 51 #[v] w fun e w' => BkPost B k 321 g 29 v w e w' := by
  have hg0 := h.lt
  have hva : ∃ gg, v = .pointer gg := by obtain ⟨_, _, _, _, e, _⟩ := h; exact ⟨_, e⟩
  obtain ⟨gg, rfl⟩ := hva
  have hr1 : ∀ w1, Below w.heap.size w w1 → Rdr w1 B k g (.pointer gg) := fun w1 hb => h.below hb
  have Hs := Lib.hid (show ∃ w1, w1 = ((w.alloc (.cells #[.slice none 0 0, .int .i64 0, .int .i64 0, .int .i64 0] 52)).alloc (.cells #[.slice none 0 0, .int .i64 0, .int .i64 0, .int .i64 0] 52)) ∧ Below w.heap.size w w1 ∧ w1.cell? ⟨w.heap.size, 0, none⟩ = some (.slice none 0 0) ∧ w1.cell? ⟨w.heap.size, 1, none⟩ = some (.int .i64 0) ∧ w1.cell? ⟨w.heap.size, 2, none⟩ = some (.int .i64 0) ∧ w1.cell? ⟨w.heap.size, 3, none⟩ = some (.int .i64 0) ∧ w1.frozen? ⟨w.heap.size, 0, none⟩ = false ∧ w1.frozen? ⟨w.heap.size, 1, none⟩ = false ∧ w1.frozen? ⟨w.heap.size, 2, none⟩ = false ∧ w1.frozen? ⟨w.heap.size, 3, none⟩ = false ∧ w1.cell? ⟨w.heap.size + 1, 0, none⟩ = some (.slice none 0 0) ∧ w1.cell? ⟨w.heap.size + 1, 1, none⟩ = some (.int .i64 0) ∧ w1.cell? ⟨w.heap.size + 1, 2, none⟩ = some (.int .i64 0) ∧ w1.cell? ⟨w.heap.size + 1, 3, none⟩ = some (.int .i64 0) ∧ w1.frozen? ⟨w.heap.size + 1, 0, none⟩ = false ∧ w1.frozen? ⟨w.heap.size + 1, 1, none⟩ = false ∧ w1.frozen? ⟨w.heap.size + 1, 2, none⟩ = false ∧ w1.frozen? ⟨w.heap.size + 1, 3, none⟩ = false ∧ w.heap.size + 1 < w1.heap.size from by
    have hb : Below w.heap.size w ((w.alloc (.cells #[.slice none 0 0, .int .i64 0, .int .i64 0, .int .i64 0] 52)).alloc (.cells #[.slice none 0 0, .int .i64 0, .int .i64 0, .int .i64 0] 52)) := ((Below.refl _ _).alloc (Nat.le_refl _) _).alloc (by simp) _
    exact ⟨_, rfl, hb, by go_simp, by go_simp, by go_simp, by go_simp, by go_simp, by go_simp, by go_simp, by go_simp, by go_simp, by go_simp, by go_simp, by go_simp, by go_simp, by go_simp, by go_simp, by go_simp, by simp⟩)
  go_enter Tryd.func51, Tryd.ntmps51
  go_wp2_with fail
  obtain ⟨w1, hw1, hb0, c00, c01, c02, c03, f00, f01, f02, f03, c10, c11, c12, c13, f10, f11, f12, f13, hz⟩ := Hs.out
  have HZ := Lib.hid (show w1.heap.size = w.heap.size + 1 + 1 by rw [hw1]; simp)
  rw [← hw1]
  clear hw1 Hs
  obtain ⟨w2, hw2⟩ : ∃ w2, w2 = w1.alloc (.cells #[] 29) := ⟨_, rfl⟩
  have HZ2 := Lib.hid (show w2.heap.size = w.heap.size + 1 + 1 + 1 by rw [hw2]; simp [HZ.out])
  have b2 : Below w1.heap.size w1 w2 := by rw [hw2]; exact (Below.refl _ _).alloc (Nat.le_refl _) _
  have oe : OwnT w2 (w.heap.size + 1 + 1) 29 7 (.slice (some ⟨w.heap.size + 1 + 1, 0, none⟩) 0 0) [] := by
    rw [hw2, ← HZ.out]; exact OwnT.empty w1 w1.heap.size _ 7 (Nat.le_refl _)
  rw [← hw2]
  clear hw2
  have hr2 := (hr1 w1 hb0).below b2
  have hgr2 := grown_trans (grown_below hb0 (some g)) (grown_below b2 (some g))
  replace c00 := keepB b2 c00; replace c01 := keepB b2 c01; replace c02 := keepB b2 c02; replace c03 := keepB b2 c03; replace c10 := keepB b2 c10; replace c11 := keepB b2 c11; replace c12 := keepB b2 c12; replace c13 := keepB b2 c13
  replace f00 := keepF b2 (by first | (simp; done) | (simp; omega)) f00; replace f01 := keepF b2 (by first | (simp; done) | (simp; omega)) f01; replace f02 := keepF b2 (by first | (simp; done) | (simp; omega)) f02; replace f03 := keepF b2 (by first | (simp; done) | (simp; omega)) f03; replace f10 := keepF b2 (by first | (simp; done) | (simp; omega)) f10; replace f11 := keepF b2 (by first | (simp; done) | (simp; omega)) f11; replace f12 := keepF b2 (by first | (simp; done) | (simp; omega)) f12; replace f13 := keepF b2 (by first | (simp; done) | (simp; omega)) f13
  clear hr1 h b2 hb0
  refine (one_lit B k g _ [8, 12, 5, 20, 0, 2] w2 _ _ _ hr2 (by omega) rfl rfl HZ2.out.symm (by simp) (by simp) (by unfold I64; simp)).mono ?_
  rintro e w3 ⟨n0, rfl, hn, hr3, bg1⟩
  have hn0 : 0 ≤ n0 ∧ n0 ≤ 20 := by simp only [List.mem_cons, List.not_mem_nil, or_false] at hn; omega
  obtain ⟨n0, rfl⟩ := Int.eq_ofNat_of_zero_le hn0.1
  have hz2 : w.heap.size + 1 + 1 < w2.heap.size := by have := HZ2.out; omega
  replace c00 := keepW bg1 (by first | (simp; done) | (simp; omega)) c00; replace c01 := keepW bg1 (by first | (simp; done) | (simp; omega)) c01; replace c02 := keepW bg1 (by first | (simp; done) | (simp; omega)) c02; replace c03 := keepW bg1 (by first | (simp; done) | (simp; omega)) c03; replace c10 := keepW bg1 (by first | (simp; done) | (simp; omega)) c10; replace c11 := keepW bg1 (by first | (simp; done) | (simp; omega)) c11; replace c12 := keepW bg1 (by first | (simp; done) | (simp; omega)) c12; replace c13 := keepW bg1 (by first | (simp; done) | (simp; omega)) c13
  replace f00 := keepWF bg1 (by first | (simp; done) | (simp; omega)) f00; replace f01 := keepWF bg1 (by first | (simp; done) | (simp; omega)) f01; replace f02 := keepWF bg1 (by first | (simp; done) | (simp; omega)) f02; replace f03 := keepWF bg1 (by first | (simp; done) | (simp; omega)) f03; replace f10 := keepWF bg1 (by first | (simp; done) | (simp; omega)) f10; replace f11 := keepWF bg1 (by first | (simp; done) | (simp; omega)) f11; replace f12 := keepWF bg1 (by first | (simp; done) | (simp; omega)) f12; replace f13 := keepWF bg1 (by first | (simp; done) | (simp; omega)) f13
  have oe3 := oe.kept (Kept.of_grown bg1 (by omega) (.inl (by omega)))
  have hgr3 := grown_trans hgr2 bg1
  have hz3 : w.heap.size + 1 + 1 < w3.heap.size := by have := bg1.size; omega
  clear hn hr2 bg1 hgr2 oe hz2 HZ2 hz
  go_wp2_with fail
  go_loopw [5, 6] (fun v5 i wr => ∃ (n k' : Nat) (evs : List Evt) (m : Mil) (lo hi : Nat) (u : Value), i = .int .i64 n ∧ evs.length + n ≤ 20 ∧ k' + 16 * n ≤ k + 321 ∧ Rdr wr B k' g (.pointer gg) ∧ OwnT wr (w.heap.size + 1 + 1) 29 7 v5 (evT evs) ∧ Hid (runB Mil.nil evs = some m) ∧ Hid (m.ok = true) ∧ ES wr lo hi u m.es ∧ w.heap.size + 1 + 1 ≤ lo ∧ hi ≤ wr.heap.size ∧ Hid (∀ q, v5.ownBlock = some q → q < lo ∨ hi ≤ q) ∧ w.grownBy wr (some g) ∧ w.heap.size + 1 + 1 < wr.heap.size ∧
    (wr.cell? ⟨w.heap.size + 1, 0, none⟩ = some u ∧ wr.cell? ⟨w.heap.size + 1, 1, none⟩ = some (.int .i64 m.a) ∧ wr.cell? ⟨w.heap.size + 1, 2, none⟩ = some (.int .i64 m.b) ∧ wr.cell? ⟨w.heap.size + 1, 3, none⟩ = some (.int .i64 m.z)) ∧
    (wr.frozen? ⟨w.heap.size + 1, 0, none⟩ = false ∧ wr.frozen? ⟨w.heap.size + 1, 1, none⟩ = false ∧ wr.frozen? ⟨w.heap.size + 1, 2, none⟩ = false ∧ wr.frozen? ⟨w.heap.size + 1, 3, none⟩ = false) ∧
    (wr.cell? ⟨w.heap.size, 0, none⟩ = some (.slice none 0 0) ∧ wr.cell? ⟨w.heap.size, 1, none⟩ = some (.int .i64 0) ∧ wr.cell? ⟨w.heap.size, 2, none⟩ = some (.int .i64 0) ∧ wr.cell? ⟨w.heap.size, 3, none⟩ = some (.int .i64 0)) ∧
    (wr.frozen? ⟨w.heap.size, 0, none⟩ = false ∧ wr.frozen? ⟨w.heap.size, 1, none⟩ = false ∧ wr.frozen? ⟨w.heap.size, 2, none⟩ = false ∧ wr.frozen? ⟨w.heap.size, 3, none⟩ = false)) (fun _ i _ => (intOf i).toNat)
  case atStart => exact ⟨n0, k + 1, [], Mil.nil, w.heap.size + 1 + 1, w.heap.size + 1 + 1, .slice none 0 0, rfl, by simp; omega, by omega, hr3, oe3, Lib.hid rfl, Lib.hid nil_ok, ES.nil _ _ _, by omega, by omega, Lib.hid (fun q hq => by have a1 : some (w.heap.size + 1 + 1) = some q := hq; injection a1 with a1; omega), hgr3, hz3, ⟨c10, c11, c12, c13⟩, ⟨f10, f11, f12, f13⟩, ⟨c00, c01, c02, c03⟩, ⟨f00, f01, f02, f03⟩⟩
  case round =>
    clear hr3 oe3 hgr3 hz3 c10 c11 c12 c13 f10 f11 f12 f13 c00 c01 c02 c03 f00 f01 f02 f03
    obtain ⟨n, k', evs, m, lo, hi, u, rfl, hln, hkk, hr, ho, HR, HK, hes, hlo, hhi, HO, hgr, hzr, ⟨c10, c11, c12, c13⟩, ⟨f10, f11, f12, f13⟩, ⟨c00, c01, c02, c03⟩, ⟨f00, f01, f02, f03⟩⟩ := hrel
    obtain ⟨A, c, rfl, hc, hm⟩ := hes.form
    by_cases hlt : 0 < n
    · obtain ⟨n1, rfl⟩ : ∃ n1, n = n1 + 1 := ⟨n - 1, by omega⟩
      have hltI : (0 : Int) < (n1 : Int) + 1 := by omega
      go_wp2_with fail
      refine (someEvent_any B k' g lo hi _ _ m.es m.a m.b m.z wr hr (by omega) hes hhi (by omega) (mill_sizes HK.out).1 (fun j hj => ((vMill_iff.1 HK.out).1 j hj).1)).mono ?_
      rintro e wa ⟨ev, k2, rfl, h64, hk2, hra, bg⟩
      replace c00 := keepW bg (by first | (simp; done) | (simp; omega)) c00; replace c01 := keepW bg (by first | (simp; done) | (simp; omega)) c01; replace c02 := keepW bg (by first | (simp; done) | (simp; omega)) c02; replace c03 := keepW bg (by first | (simp; done) | (simp; omega)) c03; replace c10 := keepW bg (by first | (simp; done) | (simp; omega)) c10; replace c11 := keepW bg (by first | (simp; done) | (simp; omega)) c11; replace c12 := keepW bg (by first | (simp; done) | (simp; omega)) c12; replace c13 := keepW bg (by first | (simp; done) | (simp; omega)) c13
      replace f00 := keepWF bg (by first | (simp; done) | (simp; omega)) f00; replace f01 := keepWF bg (by first | (simp; done) | (simp; omega)) f01; replace f02 := keepWF bg (by first | (simp; done) | (simp; omega)) f02; replace f03 := keepWF bg (by first | (simp; done) | (simp; omega)) f03; replace f10 := keepWF bg (by first | (simp; done) | (simp; omega)) f10; replace f11 := keepWF bg (by first | (simp; done) | (simp; omega)) f11; replace f12 := keepWF bg (by first | (simp; done) | (simp; omega)) f12; replace f13 := keepWF bg (by first | (simp; done) | (simp; omega)) f13
      have hea := hes.kept (Kept.of_grown bg hhi (.inl (by omega)))
      have hoa := ho.kept (Kept.of_grown bg (Nat.le_refl _) (.inl (by omega)))
      have hgra := grown_trans hgr bg
      have hza := bg.size
      have hza2 : w.heap.size + 1 + 1 < wa.heap.size := by omega
      have hza3 : w.heap.size + 1 < wa.heap.size := by omega
      have Hlt := Lib.hid ho.lt
      clear bg hr hes ho hgr
      obtain ⟨ek, elb, el, er, ef, et, eg⟩ := ev
      go_wp2_with fail
      obtain ⟨wb, hw1⟩ : ∃ wb, wb = wa.alloc (.cells #[.int .i64 ek, .int .i64 elb, .int .i64 el, .int .i64 er, .int .i64 ef, .int .i64 et, .int .i64 eg] 29) := ⟨_, rfl⟩
      have x0 : wb.cell? ⟨wa.heap.size, 0, none⟩ = some (.int .i64 ek) := by rw [hw1]; go_simp
      have x1 : wb.cell? ⟨wa.heap.size, 1, none⟩ = some (.int .i64 elb) := by rw [hw1]; go_simp
      have x2 : wb.cell? ⟨wa.heap.size, 2, none⟩ = some (.int .i64 el) := by rw [hw1]; go_simp
      have x3 : wb.cell? ⟨wa.heap.size, 3, none⟩ = some (.int .i64 er) := by rw [hw1]; go_simp
      have x4 : wb.cell? ⟨wa.heap.size, 4, none⟩ = some (.int .i64 ef) := by rw [hw1]; go_simp
      have x5 : wb.cell? ⟨wa.heap.size, 5, none⟩ = some (.int .i64 et) := by rw [hw1]; go_simp
      have x6 : wb.cell? ⟨wa.heap.size, 6, none⟩ = some (.int .i64 eg) := by rw [hw1]; go_simp
      have bx : Below wa.heap.size wa wb := by rw [hw1]; exact (Below.refl _ _).alloc (Nat.le_refl _) _
      have zx : wa.heap.size < wb.heap.size := by rw [hw1]; simp
      have HZx := Lib.hid (show wb.heap.size = wa.heap.size + 1 by rw [hw1]; simp)
      have fx0 : wb.frozen? ⟨wa.heap.size, 0, none⟩ = false := by rw [hw1]; go_simp
      have fx1 : wb.frozen? ⟨wa.heap.size, 1, none⟩ = false := by rw [hw1]; go_simp
      have fx2 : wb.frozen? ⟨wa.heap.size, 2, none⟩ = false := by rw [hw1]; go_simp
      have fx3 : wb.frozen? ⟨wa.heap.size, 3, none⟩ = false := by rw [hw1]; go_simp
      have fx4 : wb.frozen? ⟨wa.heap.size, 4, none⟩ = false := by rw [hw1]; go_simp
      have fx5 : wb.frozen? ⟨wa.heap.size, 5, none⟩ = false := by rw [hw1]; go_simp
      have fx6 : wb.frozen? ⟨wa.heap.size, 6, none⟩ = false := by rw [hw1]; go_simp
      have Hx := Lib.hid (show wb.heap[wa.heap.size]? = some (.cells #[.int .i64 ek, .int .i64 elb, .int .i64 el, .int .i64 er, .int .i64 ef, .int .i64 et, .int .i64 eg] 29) by rw [hw1]; exact heap_alloc_new wa _)
      rw [← hw1]
      clear hw1
      have hrb := hra.below bx
      have heb := hea.below bx (by omega)
      have hob := hoa.kept (.of_below bx (Nat.le_refl _))
      have hgrb := grown_trans hgra (grown_below bx (some g))
      replace c00 := keepB bx c00; replace c01 := keepB bx c01; replace c02 := keepB bx c02; replace c03 := keepB bx c03; replace c10 := keepB bx c10; replace c11 := keepB bx c11; replace c12 := keepB bx c12; replace c13 := keepB bx c13
      replace f00 := keepF bx (by first | (simp; done) | (simp; omega)) f00; replace f01 := keepF bx (by first | (simp; done) | (simp; omega)) f01; replace f02 := keepF bx (by first | (simp; done) | (simp; omega)) f02; replace f03 := keepF bx (by first | (simp; done) | (simp; omega)) f03; replace f10 := keepF bx (by first | (simp; done) | (simp; omega)) f10; replace f11 := keepF bx (by first | (simp; done) | (simp; omega)) f11; replace f12 := keepF bx (by first | (simp; done) | (simp; omega)) f12; replace f13 := keepF bx (by first | (simp; done) | (simp; omega)) f13
      have hzb : wa.heap.size < wb.heap.size := zx
      have hzb2 : wr.heap.size ≤ wa.heap.size := hza
      obtain ⟨X, hX⟩ : ∃ X, X = wa.heap.size := ⟨_, rfl⟩
      rw [← hX] at x0 x1 x2 x3 x4 x5 x6 hzb hzb2 hza2
      rw [← hX]
      clear bx hea hoa hgra hra hX Hx HZx fx0 fx1 fx2 fx3 fx4 fx5 fx6 zx hza hza3
      have hbL : w.heap.size + 1 < wb.heap.size := by omega
      cases hap : apE m ⟨ek, elb, el, er, ef, et, eg⟩ with
      | none =>
        have Hn := Lib.hid hap
        have HR2 := HR
        clear hap
        refine (applyEvent_no lo hi _ m ⟨ek, elb, el, er, ef, et, eg⟩ wb heb (by omega) HK.out h64 Hn.out).mono ?_
        rintro e wc ⟨A2, n2, c2, rfl, bc⟩
        replace c00 := keepB bc c00; replace c01 := keepB bc c01; replace c02 := keepB bc c02; replace c03 := keepB bc c03; replace c10 := keepB bc c10; replace c11 := keepB bc c11; replace c12 := keepB bc c12; replace c13 := keepB bc c13
        replace f00 := keepF bc (by first | (simp; done) | (simp; omega)) f00; replace f01 := keepF bc (by first | (simp; done) | (simp; omega)) f01; replace f02 := keepF bc (by first | (simp; done) | (simp; omega)) f02; replace f03 := keepF bc (by first | (simp; done) | (simp; omega)) f03; replace f10 := keepF bc (by first | (simp; done) | (simp; omega)) f10; replace f11 := keepF bc (by first | (simp; done) | (simp; omega)) f11; replace f12 := keepF bc (by first | (simp; done) | (simp; omega)) f12; replace f13 := keepF bc (by first | (simp; done) | (simp; omega)) f13
        have hrc := hrb.below bc
        have hoc := hob.kept (.of_below bc (Nat.le_refl _))
        have hgrc := grown_trans hgrb (grown_below bc (some g))
        have hzc := bc.size
        have hec := heb.below bc (by omega)
        have hcL : w.heap.size + 1 < wc.heap.size := by omega
        clear bc hrb hob hgrb heb x0 x1 x2 x3 x4 x5 x6 Hn
        go_wp2
        have bm : Below wc.heap.size wc (wc.alloc (.cells #[.slice A2 n2 c2, .int .i64 0, .int .i64 0, .int .i64 0] 52)) := (Below.refl _ _).alloc (Nat.le_refl _) _
        go_roundw
        case rel => exact ⟨n1, k2, evs, m, lo, hi, _, by go_num, by omega, by omega, hrc.below bm, hoc.kept (.of_below bm (Nat.le_refl _)), HR2, HK, hec.below bm (by omega), hlo, by have := bm.size; omega, HO, grown_trans hgrc (grown_below bm (some g)), by have := bm.size; omega, ⟨keepB bm c10, keepB bm c11, keepB bm c12, keepB bm c13⟩, ⟨keepF bm (by show w.heap.size + 1 < _; omega) f10, keepF bm (by show w.heap.size + 1 < _; omega) f11, keepF bm (by show w.heap.size + 1 < _; omega) f12, keepF bm (by show w.heap.size + 1 < _; omega) f13⟩, ⟨keepB bm c00, keepB bm c01, keepB bm c02, keepB bm c03⟩, ⟨keepF bm (by show w.heap.size < _; omega) f00, keepF bm (by show w.heap.size < _; omega) f01, keepF bm (by show w.heap.size < _; omega) f02, keepF bm (by show w.heap.size < _; omega) f03⟩⟩
        case measure => simp [intOf]
      | some m' =>
        have Hn := Lib.hid hap
        have HR2 := Lib.hid (runB_next HR.out hap)
        have HK2 := Lib.hid (apE_ok hap)
        clear hap HR
        refine (applyEvent_yes lo hi _ m m' ⟨ek, elb, el, er, ef, et, eg⟩ wb heb (by omega) HK.out h64 Hn.out).mono ?_
        rintro e wc ⟨A2, n2, c2, rfl, hn2, hec, bc⟩
        have Hn2 := Lib.hid hn2
        replace c00 := keepB bc c00; replace c01 := keepB bc c01; replace c02 := keepB bc c02; replace c03 := keepB bc c03; replace c10 := keepB bc c10; replace c11 := keepB bc c11; replace c12 := keepB bc c12; replace c13 := keepB bc c13; replace x0 := keepB bc x0; replace x1 := keepB bc x1; replace x2 := keepB bc x2; replace x3 := keepB bc x3; replace x4 := keepB bc x4; replace x5 := keepB bc x5; replace x6 := keepB bc x6
        replace f00 := keepF bc (by first | (simp; done) | (simp; omega)) f00; replace f01 := keepF bc (by first | (simp; done) | (simp; omega)) f01; replace f02 := keepF bc (by first | (simp; done) | (simp; omega)) f02; replace f03 := keepF bc (by first | (simp; done) | (simp; omega)) f03; replace f10 := keepF bc (by first | (simp; done) | (simp; omega)) f10; replace f11 := keepF bc (by first | (simp; done) | (simp; omega)) f11; replace f12 := keepF bc (by first | (simp; done) | (simp; omega)) f12; replace f13 := keepF bc (by first | (simp; done) | (simp; omega)) f13
        have hrc := hrb.below bc
        have hoc := hob.kept (.of_below bc (Nat.le_refl _))
        have hgrc := grown_trans hgrb (grown_below bc (some g))
        have hzc := bc.size
        have hcL : w.heap.size + 1 < wc.heap.size := by omega
        have hXc : X < wc.heap.size := by omega
        clear bc hrb hob hgrb heb hn2 HK Hn
        go_upto_region 10 with fail
        obtain ⟨ws, hws⟩ : ∃ ws, ws = ((((wc.setCell ⟨w.heap.size + 1, 0, none⟩ (.slice A2 n2 c2)).setCell ⟨w.heap.size + 1, 1, none⟩ (.int .i64 m'.a)).setCell ⟨w.heap.size + 1, 2, none⟩ (.int .i64 m'.b)).setCell ⟨w.heap.size + 1, 3, none⟩ (.int .i64 m'.z)) := ⟨_, rfl⟩
        have ex : ∀ q, ¬ w.heap.size + 1 = q → ws.heap[q]? = wc.heap[q]? := fun q hq => by rw [hws]; simp only [World.setCell, Array.getElem?_modify, if_neg hq]
        have hzs : ws.heap.size = wc.heap.size := by rw [hws]; simp [World.setCell]
        replace x0 := cell_same (ex _ (by omega)) x0
        replace x1 := cell_same (ex _ (by omega)) x1
        replace x2 := cell_same (ex _ (by omega)) x2
        replace x3 := cell_same (ex _ (by omega)) x3
        replace x4 := cell_same (ex _ (by omega)) x4
        replace x5 := cell_same (ex _ (by omega)) x5
        replace x6 := cell_same (ex _ (by omega)) x6
        replace c00 := cell_same (ex _ (by omega)) c00
        replace f00 := frozen_same (ex _ (by omega)) f00
        replace c01 := cell_same (ex _ (by omega)) c01
        replace f01 := frozen_same (ex _ (by omega)) f01
        replace c02 := cell_same (ex _ (by omega)) c02
        replace f02 := frozen_same (ex _ (by omega)) f02
        replace c03 := cell_same (ex _ (by omega)) c03
        replace f03 := frozen_same (ex _ (by omega)) f03
        have d10 : ws.cell? ⟨w.heap.size + 1, 0, none⟩ = some (.slice A2 n2 c2) := by rw [hws]; go_simp
        have fd0 : ws.frozen? ⟨w.heap.size + 1, 0, none⟩ = false := by rw [hws]; go_simp
        have d11 : ws.cell? ⟨w.heap.size + 1, 1, none⟩ = some (.int .i64 m'.a) := by rw [hws]; go_simp
        have fd1 : ws.frozen? ⟨w.heap.size + 1, 1, none⟩ = false := by rw [hws]; go_simp
        have d12 : ws.cell? ⟨w.heap.size + 1, 2, none⟩ = some (.int .i64 m'.b) := by rw [hws]; go_simp
        have fd2 : ws.frozen? ⟨w.heap.size + 1, 2, none⟩ = false := by rw [hws]; go_simp
        have d13 : ws.cell? ⟨w.heap.size + 1, 3, none⟩ = some (.int .i64 m'.z) := by rw [hws]; go_simp
        have fd3 : ws.frozen? ⟨w.heap.size + 1, 3, none⟩ = false := by rw [hws]; go_simp
        have hrs : Rdr ws B k2 g (.pointer gg) := by rw [hws]; exact ((((hrc.set (p := ⟨w.heap.size + 1, 0, none⟩) ⟨by show B ≤ w.heap.size + 1; omega, by show ¬ w.heap.size + 1 = g; omega⟩ _).set (p := ⟨w.heap.size + 1, 1, none⟩) ⟨by show B ≤ w.heap.size + 1; omega, by show ¬ w.heap.size + 1 = g; omega⟩ _).set (p := ⟨w.heap.size + 1, 2, none⟩) ⟨by show B ≤ w.heap.size + 1; omega, by show ¬ w.heap.size + 1 = g; omega⟩ _).set (p := ⟨w.heap.size + 1, 3, none⟩) ⟨by show B ≤ w.heap.size + 1; omega, by show ¬ w.heap.size + 1 = g; omega⟩ _)
        have hgrs : w.grownBy ws (some g) := by rw [hws]; exact (grown_setCell (grown_setCell (grown_setCell (grown_setCell hgrc (p := ⟨w.heap.size + 1, 0, none⟩) (by show w.heap.size ≤ w.heap.size + 1; omega) _) (p := ⟨w.heap.size + 1, 1, none⟩) (by show w.heap.size ≤ w.heap.size + 1; omega) _) (p := ⟨w.heap.size + 1, 2, none⟩) (by show w.heap.size ≤ w.heap.size + 1; omega) _) (p := ⟨w.heap.size + 1, 3, none⟩) (by show w.heap.size ≤ w.heap.size + 1; omega) _)
        have hos : OwnT ws (w.heap.size + 1 + 1) 29 7 u5 (evT evs) := hoc.kept (fun q hq _ => ex q (by omega))
        have hess : ES ws wb.heap.size wc.heap.size (.slice A2 n2 c2) m'.es := hec.kept (fun q hq _ => ex q (by omega))
        rw [show wc.heap.size = ws.heap.size from hzs.symm] at hess
        obtain ⟨w5, hw5⟩ : ∃ w5, w5 = ws.alloc (.cells #[.slice A2 n2 c2, .int .i64 m'.a, .int .i64 m'.b, .int .i64 m'.z] 52) := ⟨_, rfl⟩
        have bm : Below ws.heap.size ws w5 := by rw [hw5]; exact (Below.refl _ _).alloc (Nat.le_refl _) _
        replace c00 := keepB bm c00; replace c01 := keepB bm c01; replace c02 := keepB bm c02; replace c03 := keepB bm c03; replace d10 := keepB bm d10; replace d11 := keepB bm d11; replace d12 := keepB bm d12; replace d13 := keepB bm d13; replace x0 := keepB bm x0; replace x1 := keepB bm x1; replace x2 := keepB bm x2; replace x3 := keepB bm x3; replace x4 := keepB bm x4; replace x5 := keepB bm x5; replace x6 := keepB bm x6
        replace f00 := keepF bm (by first | (simp; done) | (simp; omega)) f00; replace f01 := keepF bm (by first | (simp; done) | (simp; omega)) f01; replace f02 := keepF bm (by first | (simp; done) | (simp; omega)) f02; replace f03 := keepF bm (by first | (simp; done) | (simp; omega)) f03; replace fd0 := keepF bm (by first | (simp; done) | (simp; omega)) fd0; replace fd1 := keepF bm (by first | (simp; done) | (simp; omega)) fd1; replace fd2 := keepF bm (by first | (simp; done) | (simp; omega)) fd2; replace fd3 := keepF bm (by first | (simp; done) | (simp; omega)) fd3
        have hr5 := hrs.below bm
        have hgr5 := grown_trans hgrs (grown_below bm (some g))
        have ho5 := hos.kept (.of_below bm (Nat.le_refl _))
        have He5 := Lib.hid (hess.below bm (Nat.le_refl _))
        have hz5b : ws.heap.size < w5.heap.size := by rw [hw5]; simp
        have hzs2 : wc.heap.size ≤ ws.heap.size := by omega
        rw [← hws, ← hw5]
        have HZs := Lib.hid hzs
        clear hw5 hws ex bm hrc hgrc hoc hec c10 c11 c12 c13 f10 f11 f12 f13 hrs hgrs hos hess hzs
        have Hoe := Lib.hid ho5
        have hel : (evT evs).length ≤ 20 := by rw [evT_len]; omega
        go_wp2_with (at_builtin; refine wpList_appendT2 SlEvent _ rfl (.tmp 30) (.tmp 32) rfl [ek, elb, el, er, ef, et, eg] _ rfl (w.heap.size + 1 + 1) _ _ rfl rfl Hoe.out ⟨rfl, i64_7 h64⟩ (by omega) (by omega) (by omega) ?_; intro v6 w6 ho6 hg6 hb6; have bA := hg6.below; replace c00 := keepC bA (by first | (simp; done) | (simp; omega)) c00; replace c01 := keepC bA (by first | (simp; done) | (simp; omega)) c01; replace c02 := keepC bA (by first | (simp; done) | (simp; omega)) c02; replace c03 := keepC bA (by first | (simp; done) | (simp; omega)) c03; replace d10 := keepC bA (by first | (simp; done) | (simp; omega)) d10; replace d11 := keepC bA (by first | (simp; done) | (simp; omega)) d11; replace d12 := keepC bA (by first | (simp; done) | (simp; omega)) d12; replace d13 := keepC bA (by first | (simp; done) | (simp; omega)) d13; replace f00 := keepF bA (by first | (simp; done) | (simp; omega)) f00; replace f01 := keepF bA (by first | (simp; done) | (simp; omega)) f01; replace f02 := keepF bA (by first | (simp; done) | (simp; omega)) f02; replace f03 := keepF bA (by first | (simp; done) | (simp; omega)) f03; replace fd0 := keepF bA (by first | (simp; done) | (simp; omega)) fd0; replace fd1 := keepF bA (by first | (simp; done) | (simp; omega)) fd1; replace fd2 := keepF bA (by first | (simp; done) | (simp; omega)) fd2; replace fd3 := keepF bA (by first | (simp; done) | (simp; omega)) fd3)
        go_roundw
        case rel => exact ⟨n1, k2, evs ++ [⟨ek, elb, el, er, ef, et, eg⟩], m', wb.heap.size, ws.heap.size, _, by go_num, by rw [List.length_append]; simp; omega, by omega, hr5.grew hg6 (by omega), by rw [evT_snoc]; exact ho6, HR2, HK2, He5.out.kept (fun q h1 h2 => hg6.other q (by omega) (fun e => by have := (Hlt.out q e.symm).2; omega)), by omega, by have := hg6.size; omega, Lib.hid (fun q hq => by rcases hb6 with e | e; exact .inl (by have := (Hlt.out q (e ▸ hq)).2; omega); exact .inr (by rw [e] at hq; injection hq with hq; omega)), grown_then hgr5 bA (by omega), by have := hg6.size; omega, ⟨d10, d11, d12, d13⟩, ⟨fd0, fd1, fd2, fd3⟩, ⟨c00, c01, c02, c03⟩, ⟨f00, f01, f02, f03⟩⟩
        case measure => simp [intOf]
    · obtain rfl : n = 0 := by omega
      have hr9 := hr.drew
      have HOut := Lib.hid ho
      have HEs := Lib.hid hes
      have hnPS : ¬ w.heap.size = w.heap.size + 1 := by omega
      have hnPS2 : ¬ w.heap.size + 1 = w.heap.size := by omega
      go_wp2_with fail
      refine wp_region_held_drew (S := fun w' => w'.cell? ⟨w.heap.size + 1, 0, none⟩ = some (.slice A m.es.length c) ∧ w'.cell? ⟨w.heap.size + 1, 1, none⟩ = some (.int .i64 (m.a)) ∧ w'.cell? ⟨w.heap.size + 1, 2, none⟩ = some (.int .i64 (m.b)) ∧ w'.cell? ⟨w.heap.size + 1, 3, none⟩ = some (.int .i64 (m.z))) (by kernel_rfl) ?_ (fun hHeld => ?_)
      · (first | (try dsimp only); go_keep | (go_split_ands; refine ⟨?_, ?_, ?_, ?_⟩ <;> first | exact keepB bx5 (by assumption) | exact keepB bx4 (by assumption) | exact keepB bx3 (by assumption) | exact keepB bx2 (by assumption) | exact keepB bx1 (by assumption) | exact keepO bo5 (by first | (simp; done) | (simp; omega)) (by assumption) | exact keepO bo4 (by first | (simp; done) | (simp; omega)) (by assumption) | exact keepO bo3 (by first | (simp; done) | (simp; omega)) (by assumption) | exact keepO bo2 (by first | (simp; done) | (simp; omega)) (by assumption) | exact keepO bo1 (by first | (simp; done) | (simp; omega)) (by assumption) | exact keepW bg2 (by first | (simp; done) | (simp; omega)) (by assumption) | exact keepW bg1 (by first | (simp; done) | (simp; omega)) (by assumption) | assumption))
      refine wpAnyH_take (i := 0) (oi := ⟨some 34, _, _, _, _, _⟩) (v := _) rfl (by kernel_rfl) (by kernel_rfl) (by kernel_rfl) (fun _ _ _ h => h) (Or.inl ⟨by kernel_rfl, by intro w hSw; (try dsimp only at hSw); go_simp; try with_reducible rfl⟩) (by assumption) ?_
      simp only [Act.put, List.setIfInBounds_toArray, List.set_cons_zero, List.set_cons_succ]
      refine wpAnyH_take (i := 1) (oi := ⟨some 35, _, _, _, _, _⟩) (v := _) rfl (by kernel_rfl) (by kernel_rfl) (by kernel_rfl) (fun _ _ _ h => h) (Or.inl ⟨by kernel_rfl, by intro w hSw; (try dsimp only at hSw); go_simp; try with_reducible rfl⟩) (by assumption) ?_
      simp only [Act.put, List.setIfInBounds_toArray, List.set_cons_zero, List.set_cons_succ]
      refine wpAnyH_take (i := 2) (oi := ⟨some 2, _, _, _, _, _⟩) (v := _) rfl (by kernel_rfl) (by kernel_rfl) (by kernel_rfl) (fun _ _ _ h => h) (Or.inl ⟨by kernel_rfl, by intro w hSw; (try dsimp only at hSw); go_simp; try with_reducible rfl⟩) (by assumption) ?_
      simp only [Act.put, List.setIfInBounds_toArray, List.set_cons_zero, List.set_cons_succ]
      refine wpAnyH_ready (rs := [3]) (by kernel_rfl) (by simp) ?_
      refine AllReadyH.cons (o := ⟨none, _, _, _, _, _⟩) rfl (fun K hK => ?_) AllReadyH.nil
      go_simp
      refine hK.out _ _ ?_ (fun hHeld2 => ?_)
      · (first | (try dsimp only); go_keep | (go_split_ands; refine ⟨?_, ?_, ?_, ?_⟩ <;> first | exact keepB bx5 (by assumption) | exact keepB bx4 (by assumption) | exact keepB bx3 (by assumption) | exact keepB bx2 (by assumption) | exact keepB bx1 (by assumption) | exact keepO bo5 (by first | (simp; done) | (simp; omega)) (by assumption) | exact keepO bo4 (by first | (simp; done) | (simp; omega)) (by assumption) | exact keepO bo3 (by first | (simp; done) | (simp; omega)) (by assumption) | exact keepO bo2 (by first | (simp; done) | (simp; omega)) (by assumption) | exact keepO bo1 (by first | (simp; done) | (simp; omega)) (by assumption) | exact keepW bg2 (by first | (simp; done) | (simp; omega)) (by assumption) | exact keepW bg1 (by first | (simp; done) | (simp; omega)) (by assumption) | assumption))
      clear hK K hHeld
      have hHeld := hHeld2
      clear hHeld2
      try simp only [Act.put, List.setIfInBounds_toArray, List.set_cons_zero, List.set_cons_succ]
      refine wpAnyH_done (by kernel_rfl) ?_ _
      obtain ⟨A5, c5, rfl, _⟩ := ho.form
      obtain ⟨wq, hwq⟩ : ∃ wq, wq = ((((wr.setCell ⟨w.heap.size, 0, none⟩ (.slice A m.es.length c)).setCell ⟨w.heap.size, 1, none⟩ (.int .i64 m.a)).setCell ⟨w.heap.size, 2, none⟩ (.int .i64 m.b)).setCell ⟨w.heap.size, 3, none⟩ (.int .i64 m.z)) := ⟨_, rfl⟩
      have hrq : Rdr wq B k' g (.pointer gg) := by rw [hwq]; exact ((((hr.set (p := ⟨w.heap.size, 0, none⟩) ⟨by show B ≤ w.heap.size; omega, by show ¬ w.heap.size = g; omega⟩ _).set (p := ⟨w.heap.size, 1, none⟩) ⟨by show B ≤ w.heap.size; omega, by show ¬ w.heap.size = g; omega⟩ _).set (p := ⟨w.heap.size, 2, none⟩) ⟨by show B ≤ w.heap.size; omega, by show ¬ w.heap.size = g; omega⟩ _).set (p := ⟨w.heap.size, 3, none⟩) ⟨by show B ≤ w.heap.size; omega, by show ¬ w.heap.size = g; omega⟩ _)
      have hgq : w.grownBy wq (some g) := by rw [hwq]; exact (grown_setCell (grown_setCell (grown_setCell (grown_setCell hgr (p := ⟨w.heap.size, 0, none⟩) (by show w.heap.size ≤ w.heap.size; omega) _) (p := ⟨w.heap.size, 1, none⟩) (by show w.heap.size ≤ w.heap.size; omega) _) (p := ⟨w.heap.size, 2, none⟩) (by show w.heap.size ≤ w.heap.size; omega) _) (p := ⟨w.heap.size, 3, none⟩) (by show w.heap.size ≤ w.heap.size; omega) _)
      have hoq : OwnT wq (w.heap.size + 1 + 1) 29 7 (.slice A5 (evT evs).length c5) (evT evs) := by rw [hwq]; exact ((((HOut.out.setBelow (p := ⟨w.heap.size, 0, none⟩) (by show w.heap.size < _; omega) _).setBelow (p := ⟨w.heap.size, 1, none⟩) (by show w.heap.size < _; omega) _).setBelow (p := ⟨w.heap.size, 2, none⟩) (by show w.heap.size < _; omega) _).setBelow (p := ⟨w.heap.size, 3, none⟩) (by show w.heap.size < _; omega) _)
      have heq : ES wq lo hi (.slice A m.es.length c) m.es := by rw [hwq]; exact HEs.out.kept (fun q hq _ => by simp only [World.setCell, Array.getElem?_modify, if_neg (show ¬ w.heap.size = q by omega)])
      have hzq : wr.heap.size ≤ wq.heap.size := by rw [hwq]; simp [World.setCell]
      have e00 : wq.cell? ⟨w.heap.size, 0, none⟩ = some (.slice A m.es.length c) := by rw [hwq]; go_simp
      have e01 : wq.cell? ⟨w.heap.size, 1, none⟩ = some (.int .i64 m.a) := by rw [hwq]; go_simp
      have e02 : wq.cell? ⟨w.heap.size, 2, none⟩ = some (.int .i64 m.b) := by rw [hwq]; go_simp
      have e03 : wq.cell? ⟨w.heap.size, 3, none⟩ = some (.int .i64 m.z) := by rw [hwq]; go_simp
      rw [← hwq]
      clear hwq hHeld c00 c01 c02 c03 c10 c11 c12 c13 f00 f01 f02 f03 f10 f11 f12 f13 hr hgr ho hes hr9 HOut HEs
      go_wp2
      refine bodyPost_ret (v := .tuple #[.slice A5 (evT evs).length c5, .agg #[.slice A m.es.length c, .int .i64 m.a, .int .i64 m.b, .int .i64 m.z]]) (by simp [results, Tryd.results51, go_sem, *]) rfl ⟨_, _, evs, m, k', rfl, OwnT.base hoq (by omega), ?_, HR.out, HK.out, by omega, by omega, hrq, ⟨hgq.os, hgq.tape, hgq.output, hgq.size, hgq.block⟩⟩
      show ES wq w.heap.size wq.heap.size _ _
      exact (heq.wide (by omega) (by omega))
end Go.Proofs.YtlabekemifccaaaDoor
