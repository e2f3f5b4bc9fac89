/-
  Lemmas and contracts of single functions of this program, used by the proofs of its laws: what each call returns and what becomes of memory. Conditions: the hypotheses of each theorem.
-/
import Derived.Test.YtkgepklapglmdaaMillA
import Derived.Test.YtkgepklapglmdaaMReel
namespace Go.Proofs.Ytkgepklapglmdaa
open Go.RowKit
attribute [local go_sem ↓] Go.wp_at_zero Go.wp_at_succ

theorem ents_set {es : List Ent} {k : Nat} (h : k < es.length) (z : Ent) : (es.take k ++ (List.replicate es.length z).drop k).set k (ge es k) = es.take (k + 1) ++ (List.replicate es.length z).drop (k + 1) := by
  rw [take_ge h, List.set_append_right _ _ (by rw [List.length_take]; omega), List.length_take, show k - min k es.length = 0 by omega, List.drop_eq_getElem_cons (by rw [List.length_replicate]; exact h), List.set_cons_zero, List.append_assoc]
  rfl
theorem ents_len {es : List Ent} {k : Nat} (h : k ≤ es.length) (z : Ent) : (es.take k ++ (List.replicate es.length z).drop k).length = es.length := by
  rw [List.length_append, List.length_take, List.length_drop, List.length_replicate]; omega
theorem szReel_gen (W L : Int) (A : Option Addr) (n c m : Nat) (w : World) (hn : n ≤ 2 ^ 63 - 1) (hm : m ≤ 1099511627776) :
    Calls Try.prog 86 #[.agg #[.int .i64 W, .int .i64 L, .slice A n c], .int .i64 (m : Int)] w fun e w' => e = .returned (.int .i64 (if n ≤ m then ((m - n : Nat) : Int) else -1)) ∧ Below w.heap.size w w' := by
  by_cases h : n ≤ m
  · rw [if_pos h]
    go_enter Try.func86, Try.ntmps86
    go_wp2_with (go_at_call 114; refine (szDefectS_any A n c m _ h (by omega)).mono ?_; rintro e w1 ⟨rfl, rfl⟩)
    go_ret
    exact ⟨rfl, (Below.refl _ _).alloc (Nat.le_refl _) _⟩
  · rw [if_neg h]
    go_enter Try.func86, Try.ntmps86
    go_wp2_with (go_at_call 114; refine (szDefectS_neg A n c m _ (by omega) hn).mono ?_; rintro e w1 ⟨rfl, rfl⟩)
    go_ret
    exact ⟨rfl, (Below.refl _ _).alloc (Nat.le_refl _) _⟩
theorem szEntry_any (lb W L : Int) (A B : Option Addr) (n c n2 c2 m : Nat) (w : World) (hn : n ≤ 2 ^ 63 - 1) (hn2 : n2 ≤ 2 ^ 63 - 1) (hm : m ≤ 1099511627776) :
    Calls Try.prog 55 #[.agg #[.int .i64 lb, .int .i64 W, .int .i64 L, .slice A n c, .slice B n2 c2], .int .i64 (m : Int)] w fun e w' => e = .returned (.int .i64 (if n + n2 ≤ m then ((m - n - n2 : Nat) : Int) else -1)) ∧ Below w.heap.size w w' := by
  have Hs := Lib.hid (show ∃ w1, w1 = (w.alloc (.cells #[.int .i64 lb, .int .i64 W, .int .i64 L, .slice A n c, .slice B n2 c2] 96)) ∧ Below w.heap.size w w1 ∧ w1.cell? ⟨w.heap.size, 0, none⟩ = some (.int .i64 lb) ∧ w1.cell? ⟨w.heap.size, 1, none⟩ = some (.int .i64 W) ∧ w1.cell? ⟨w.heap.size, 2, none⟩ = some (.int .i64 L) ∧ w1.cell? ⟨w.heap.size, 3, none⟩ = some (.slice A n c) ∧ w1.cell? ⟨w.heap.size, 4, none⟩ = some (.slice B n2 c2) ∧ w.heap.size < w1.heap.size from by
    have hb : Below w.heap.size w (w.alloc (.cells #[.int .i64 lb, .int .i64 W, .int .i64 L, .slice A n c, .slice B n2 c2] 96)) := (Below.refl _ _).alloc (Nat.le_refl _) _
    exact ⟨_, rfl, hb, by go_simp, by go_simp, by go_simp, by go_simp, by go_simp, by simp⟩)
  go_enter Try.func55, Try.ntmps55
  go_wp2_with fail
  obtain ⟨w1, hw1, hb0, c00, c01, c02, c03, c04, hz⟩ := Hs.out
  rw [← hw1]
  clear hw1 Hs
  refine (szReel_gen W L A n c m w1 hn hm).mono ?_
  by_cases h : n ≤ m
  · rw [if_pos h]
    rintro e w2 ⟨rfl, b⟩
    replace c00 := keepB b c00; replace c01 := keepB b c01; replace c02 := keepB b c02; replace c03 := keepB b c03; replace c04 := keepB b c04
    have hb := hb0.trans (b.mono (by omega))
    clear b hb0
    go_wp2_with fail
    by_cases h2 : n2 ≤ m - n
    · refine (szPartS_any B n2 c2 (m - n) w2 h2 (by omega)).mono ?_
      rintro e w3 ⟨rfl, rfl⟩
      go_wp2
      go_ret
      exact ⟨ret_int (by first | rfl | (rw [if_pos (show n + n2 ≤ m by omega)])), hb⟩
    · refine (szPartS_neg B n2 c2 (m - n) w2 (by omega) hn2).mono ?_
      rintro e w3 ⟨rfl, rfl⟩
      go_wp2
      go_ret
      exact ⟨ret_int (by first | rfl | (rw [if_neg (show ¬ n + n2 ≤ m by omega)])), hb⟩
  · rw [if_neg h]
    rintro e w2 ⟨rfl, b⟩
    go_wp2
    go_ret
    exact ⟨ret_int (by first | rfl | (rw [if_neg (show ¬ n + n2 ≤ m by omega)])), hb0.trans (b.mono (by omega))⟩
set_option maxHeartbeats 2000000 in
theorem toEntry_any (lo hi : Nat) (lb W L : Int) (v u : Value) (ds ps : List (List Int)) (w : World) (h : TS w lo hi 5 v ds) (hp : TS w lo hi 4 u ps) (hhi : hi ≤ w.heap.size) (hl : ds.length ≤ 1048576) (hl2 : ps.length ≤ 1048576) :
    Calls Try.prog 65 #[.agg #[.int .i64 lb, .int .i64 W, .int .i64 L, v, u]] w fun e w' => ∃ v' u', e = .returned (.agg #[.int .i64 lb, .int .i64 W, .int .i64 L, v', u']) ∧ OwnT w' w.heap.size 83 5 v' ds ∧ OwnT w' w.heap.size 48 4 u' ps ∧ Below w.heap.size w w' := by
  obtain ⟨A, c, rfl, hc, hm⟩ := h.form
  obtain ⟨B, c2, rfl, hc2, hm2⟩ := hp.form
  have Hs := Lib.hid (show ∃ w1, w1 = (((w.alloc (.cells #[.int .i64 lb, .int .i64 W, .int .i64 L, .slice A ds.length c, .slice B ps.length c2] 96)).alloc (.cells #[.int .i64 0, .int .i64 0, .int .i64 0, .slice none 0 0, .slice none 0 0] 56)).alloc (.cells #[.int .i64 lb, .int .i64 0, .int .i64 0, .slice none 0 0, .slice none 0 0] 56)) ∧ Below w.heap.size w w1 ∧ w1.cell? ⟨w.heap.size, 0, none⟩ = some (.int .i64 lb) ∧ w1.cell? ⟨w.heap.size, 1, none⟩ = some (.int .i64 W) ∧ w1.cell? ⟨w.heap.size, 2, none⟩ = some (.int .i64 L) ∧ w1.cell? ⟨w.heap.size, 3, none⟩ = some (.slice A ds.length c) ∧ w1.cell? ⟨w.heap.size, 4, none⟩ = some (.slice B ps.length c2) ∧ w1.cell? ⟨w.heap.size + 1, 0, none⟩ = some (.int .i64 0) ∧ w1.cell? ⟨w.heap.size + 1, 1, none⟩ = some (.int .i64 0) ∧ w1.cell? ⟨w.heap.size + 1, 2, none⟩ = some (.int .i64 0) ∧ w1.cell? ⟨w.heap.size + 1, 3, none⟩ = some (.slice none 0 0) ∧ w1.cell? ⟨w.heap.size + 1, 4, none⟩ = some (.slice none 0 0) ∧ w1.frozen? ⟨w.heap.size + 1, 0, none⟩ = false ∧ w1.frozen? ⟨w.heap.size + 1, 1, none⟩ = false ∧ w1.frozen? ⟨w.heap.size + 1, 2, none⟩ = false ∧ w1.frozen? ⟨w.heap.size + 1, 3, none⟩ = false ∧ w1.frozen? ⟨w.heap.size + 1, 4, none⟩ = false ∧ w1.cell? ⟨w.heap.size + 1 + 1, 0, none⟩ = some (.int .i64 lb) ∧ w1.cell? ⟨w.heap.size + 1 + 1, 1, none⟩ = some (.int .i64 0) ∧ w1.cell? ⟨w.heap.size + 1 + 1, 2, none⟩ = some (.int .i64 0) ∧ w1.cell? ⟨w.heap.size + 1 + 1, 3, none⟩ = some (.slice none 0 0) ∧ w1.cell? ⟨w.heap.size + 1 + 1, 4, none⟩ = some (.slice none 0 0) ∧ w1.frozen? ⟨w.heap.size + 1 + 1, 0, none⟩ = false ∧ w1.frozen? ⟨w.heap.size + 1 + 1, 1, none⟩ = false ∧ w1.frozen? ⟨w.heap.size + 1 + 1, 2, none⟩ = false ∧ w1.frozen? ⟨w.heap.size + 1 + 1, 3, none⟩ = false ∧ w1.frozen? ⟨w.heap.size + 1 + 1, 4, none⟩ = false ∧ TS w1 lo hi 5 (.slice A ds.length c) ds ∧ TS w1 lo hi 4 (.slice B ps.length c2) ps ∧ w.heap.size + 1 + 1 < w1.heap.size from by
    have hb : Below w.heap.size w (((w.alloc (.cells #[.int .i64 lb, .int .i64 W, .int .i64 L, .slice A ds.length c, .slice B ps.length c2] 96)).alloc (.cells #[.int .i64 0, .int .i64 0, .int .i64 0, .slice none 0 0, .slice none 0 0] 56)).alloc (.cells #[.int .i64 lb, .int .i64 0, .int .i64 0, .slice none 0 0, .slice none 0 0] 56)) := (((Below.refl _ _).alloc (Nat.le_refl _) _).alloc (by simp) _).alloc (by simp; omega) _
    exact ⟨_, rfl, hb, by go_simp, by go_simp, by go_simp, by go_simp, by go_simp, by go_simp, by go_simp, by go_simp, by go_simp, by go_simp, by go_simp, by go_simp, by go_simp, by go_simp, by go_simp, by go_simp, by go_simp, by go_simp, by go_simp, by go_simp, by go_simp, by go_simp, by go_simp, by go_simp, by go_simp, h.below hb hhi, hp.below hb hhi, by simp⟩)
  go_enter Try.func65, Try.ntmps65
  go_wp2_with (fail)
  obtain ⟨w1, hw1, hb0, c00, c01, c02, c03, c04, c10, c11, c12, c13, c14, f10, f11, f12, f13, f14, c20, c21, c22, c23, c24, f20, f21, f22, f23, f24, hT0, hT1, hz⟩ := Hs.out
  rw [← hw1]
  clear hw1 Hs
  refine (toReel_any lo hi W L _ ds w1 hT0 (by omega) hl).mono ?_
  rintro e w2 ⟨v', rfl, ho, bx⟩
  replace c00 := keepB bx c00; replace c01 := keepB bx c01; replace c02 := keepB bx c02; replace c03 := keepB bx c03; replace c04 := keepB bx c04; replace c10 := keepB bx c10; replace c11 := keepB bx c11; replace c12 := keepB bx c12; replace c13 := keepB bx c13; replace c14 := keepB bx c14; replace c20 := keepB bx c20; replace c21 := keepB bx c21; replace c22 := keepB bx c22; replace c23 := keepB bx c23; replace c24 := keepB bx c24
  replace f10 := keepF bx (by first | (simp; done) | (simp; omega)) f10; replace f11 := keepF bx (by first | (simp; done) | (simp; omega)) f11; replace f12 := keepF bx (by first | (simp; done) | (simp; omega)) f12; replace f13 := keepF bx (by first | (simp; done) | (simp; omega)) f13; replace f14 := keepF bx (by first | (simp; done) | (simp; omega)) f14; replace f20 := keepF bx (by first | (simp; done) | (simp; omega)) f20; replace f21 := keepF bx (by first | (simp; done) | (simp; omega)) f21; replace f22 := keepF bx (by first | (simp; done) | (simp; omega)) f22; replace f23 := keepF bx (by first | (simp; done) | (simp; omega)) f23; replace f24 := keepF bx (by first | (simp; done) | (simp; omega)) f24
  have hp2 := hT1.below bx (by omega)
  obtain ⟨A2, c9, rfl, _⟩ := ho.form
  have hz2 := bx.size
  have hb2 := hb0.trans (bx.mono (by omega))
  have Ho := Lib.hid ho
  clear ho bx hb0 hT0 hT1
  go_wp2_with (fail)
  obtain ⟨w3, hw3⟩ : ∃ w3, w3 = ((w2.setCell ⟨w.heap.size + 1 + 1, 1, none⟩ (.int .i64 W)).setCell ⟨w.heap.size + 1 + 1, 2, none⟩ (.int .i64 L)).setCell ⟨w.heap.size + 1 + 1, 3, none⟩ (.slice A2 ds.length c9) := ⟨_, rfl⟩
  have d00 : w3.cell? ⟨w.heap.size, 4, none⟩ = some (.slice B ps.length c2) := by rw [hw3]; go_simp
  have d10 : w3.cell? ⟨w.heap.size + 1, 0, none⟩ = some (.int .i64 0) := by rw [hw3]; go_simp
  have g10 : w3.frozen? ⟨w.heap.size + 1, 0, none⟩ = false := by rw [hw3]; go_simp
  have d11 : w3.cell? ⟨w.heap.size + 1, 1, none⟩ = some (.int .i64 0) := by rw [hw3]; go_simp
  have g11 : w3.frozen? ⟨w.heap.size + 1, 1, none⟩ = false := by rw [hw3]; go_simp
  have d12 : w3.cell? ⟨w.heap.size + 1, 2, none⟩ = some (.int .i64 0) := by rw [hw3]; go_simp
  have g12 : w3.frozen? ⟨w.heap.size + 1, 2, none⟩ = false := by rw [hw3]; go_simp
  have d13 : w3.cell? ⟨w.heap.size + 1, 3, none⟩ = some (.slice none 0 0) := by rw [hw3]; go_simp
  have g13 : w3.frozen? ⟨w.heap.size + 1, 3, none⟩ = false := by rw [hw3]; go_simp
  have d14 : w3.cell? ⟨w.heap.size + 1, 4, none⟩ = some (.slice none 0 0) := by rw [hw3]; go_simp
  have g14 : w3.frozen? ⟨w.heap.size + 1, 4, none⟩ = false := by rw [hw3]; go_simp
  have d20 : w3.cell? ⟨w.heap.size + 1 + 1, 0, none⟩ = some (.int .i64 lb) := by rw [hw3]; go_simp
  have g20 : w3.frozen? ⟨w.heap.size + 1 + 1, 0, none⟩ = false := by rw [hw3]; go_simp
  have d21 : w3.cell? ⟨w.heap.size + 1 + 1, 1, none⟩ = some (.int .i64 W) := by rw [hw3]; go_simp
  have g21 : w3.frozen? ⟨w.heap.size + 1 + 1, 1, none⟩ = false := by rw [hw3]; go_simp
  have d22 : w3.cell? ⟨w.heap.size + 1 + 1, 2, none⟩ = some (.int .i64 L) := by rw [hw3]; go_simp
  have g22 : w3.frozen? ⟨w.heap.size + 1 + 1, 2, none⟩ = false := by rw [hw3]; go_simp
  have d23 : w3.cell? ⟨w.heap.size + 1 + 1, 3, none⟩ = some (.slice A2 ds.length c9) := by rw [hw3]; go_simp
  have g23 : w3.frozen? ⟨w.heap.size + 1 + 1, 3, none⟩ = false := by rw [hw3]; go_simp
  have d24 : w3.cell? ⟨w.heap.size + 1 + 1, 4, none⟩ = some (.slice none 0 0) := by rw [hw3]; go_simp
  have g24 : w3.frozen? ⟨w.heap.size + 1 + 1, 4, none⟩ = false := by rw [hw3]; go_simp
  have hb3 : Below w.heap.size w w3 := by rw [hw3]; exact ((hb2.setCell (p := ⟨_, _, _⟩) (by simp; omega) _).setCell (p := ⟨_, _, _⟩) (by simp; omega) _).setCell (p := ⟨_, _, _⟩) (by simp; omega) _
  have Ho3 := Lib.hid (show OwnT w3 w1.heap.size 83 5 (.slice A2 ds.length c9) ds by rw [hw3]; exact ((Ho.out.setBelow (by simp; omega) _).setBelow (by simp; omega) _).setBelow (by simp; omega) _)
  have hp3 : TS w3 lo hi 4 (.slice B ps.length c2) ps := by
    rw [hw3]
    exact hp2.kept fun g _ hg => by simp only [World.setCell, Array.getElem?_modify, if_neg (show ¬ w.heap.size + 1 + 1 = g by omega)]
  have hz3 : w3.heap.size = w2.heap.size := by rw [hw3]; simp [World.setCell]
  have hz3a : w1.heap.size ≤ w3.heap.size := by omega
  rw [← hw3]
  clear hw3 hz3 c00 c01 c02 c03 c04 c10 c11 c12 c13 c14 c20 c21 c22 c23 c24 f10 f11 f12 f13 f14 f20 f21 f22 f23 f24 Ho hp2 hb2
  refine (toPartS_any lo hi _ ps w3 hp3 (by omega) hl2).mono ?_
  rintro e w4 ⟨u', rfl, ho, bx⟩
  replace d10 := keepB bx d10; replace d11 := keepB bx d11; replace d12 := keepB bx d12; replace d13 := keepB bx d13; replace d14 := keepB bx d14; replace d20 := keepB bx d20; replace d21 := keepB bx d21; replace d22 := keepB bx d22; replace d23 := keepB bx d23; replace d24 := keepB bx d24
  replace g10 := keepF bx (by first | (simp; done) | (simp; omega)) g10; replace g11 := keepF bx (by first | (simp; done) | (simp; omega)) g11; replace g12 := keepF bx (by first | (simp; done) | (simp; omega)) g12; replace g13 := keepF bx (by first | (simp; done) | (simp; omega)) g13; replace g14 := keepF bx (by first | (simp; done) | (simp; omega)) g14; replace g20 := keepF bx (by first | (simp; done) | (simp; omega)) g20; replace g21 := keepF bx (by first | (simp; done) | (simp; omega)) g21; replace g22 := keepF bx (by first | (simp; done) | (simp; omega)) g22; replace g23 := keepF bx (by first | (simp; done) | (simp; omega)) g23; replace g24 := keepF bx (by first | (simp; done) | (simp; omega)) g24
  have hb4 := hb3.trans (bx.mono (by omega))
  have Hd4 := Lib.hid (Ho3.out.kept (.of_below bx (Nat.le_refl _)))
  obtain ⟨B2, c8, rfl, _⟩ := ho.form
  have Hp4 := Lib.hid ho
  clear ho bx Ho3 hp3 hb3
  go_wp2
  refine bodyPost_ret (v := .agg #[.int .i64 lb, .int .i64 W, .int .i64 L, .slice A2 ds.length c9, .slice B2 ps.length c8]) (by simp [results, Try.results65, go_sem, *]) rfl ⟨_, _, rfl, ?_, ?_, ?_⟩
  · exact ((((((Hd4.out.setBelow (by simp; omega) _).setBelow (by simp; omega) _).setBelow (by simp; omega) _).setBelow (by simp; omega) _).setBelow (by simp; omega) _).setBelow (by simp; omega) _).base (by omega)
  · exact ((((((Hp4.out.setBelow (by simp; omega) _).setBelow (by simp; omega) _).setBelow (by simp; omega) _).setBelow (by simp; omega) _).setBelow (by simp; omega) _).setBelow (by simp; omega) _).base (by omega)
  · exact (((((hb4.setCell (p := ⟨_, _, _⟩) (by simp; omega) _).setCell (p := ⟨_, _, _⟩) (by simp) _).setCell (p := ⟨_, _, _⟩) (by simp) _).setCell (p := ⟨_, _, _⟩) (by simp) _).setCell (p := ⟨_, _, _⟩) (by simp) _).setCell (p := ⟨_, _, _⟩) (by simp) _
theorem SlEntry : SlT Try.prog 30 56 (.agg #[.int .i64 0, .int .i64 0, .int .i64 0, .slice none 0 0, .slice none 0 0]) 5 72 := ⟨Try.underlying30, by kernel_rfl, rfl, by omega⟩
theorem wpList_makeE (tD tP : Nat) {P : Program} {t e : TypeId} (S : SlT P t e (.agg #[.int .i64 0, .int .i64 0, .int .i64 0, .slice none 0 0, .slice none 0 0]) 5 72) {ops : Array Oper} {rest : List Oper} {o : Oper} {a : Act} {Q : Exit → Act → World → Prop} (w : World) (hgd : o.guard = none) (l c : Operand)
    (ho : o.op = Op.makeSlice t l c) (base n : Nat) (hl : a.eval l = .int .i64 (n : Int)) (hc : a.eval c = .int .i64 (n : Int)) (hn : n ≤ 1099511627776) (hb : base ≤ w.heap.size)
    (h : ∀ w', OwnE w' base w'.heap.size e tD tP (.slice (some ⟨w.heap.size, 0, none⟩) n n) (List.replicate n Ent.nil) → Below w.heap.size w w' → w.heap.size < w'.heap.size → wpList P ops Q rest (a.put o.dst (.slice (some ⟨w.heap.size, 0, none⟩) n n)) w') :
    wpList P ops Q (o :: rest) a w := by
  obtain ⟨i, hi, hz1, hz2, hz3⟩ := info_parts S.hi
  exact wpList_make_full w hgd l c t ho base e i _ 5 S.ht hi hz1 hz2 .i64 .i64 _ _ n hl hc rfl rfl (by rw [hz3]; omega) (by unfold maxLen; omega) hb fun w' k1 k2 =>
    h w' (OwnE.made k1) ((Below.refl _ _).grown k2 (Nat.le_refl _) fun k hk => by cases hk) (k1.lt _ rfl).2
set_option maxHeartbeats 4000000 in
theorem toEntryS_any (lo hi : Nat) (v : Value) (es : List Ent) (w : World) (h : ES w lo hi v es) (hhi : hi ≤ w.heap.size) (hl : es.length ≤ 1048576) (hs : ∀ k, k < es.length → (ge es k).ds.length ≤ 1048576 ∧ (ge es k).ps.length ≤ 1048576) :
    Calls Try.prog 31 #[v] w fun e w' => ∃ v', e = .returned v' ∧ OwnE w' w.heap.size w'.heap.size 56 83 48 v' es ∧ Below w.heap.size w w' := by
  obtain ⟨A, c, rfl, hc, hm⟩ := h.form
  have HSz := Lib.hid hs
  clear hs
  go_enter Try.func31, Try.ntmps31
  go_wp2_with (at_make; refine wpList_makeE 83 48 SlEntry _ rfl _ _ rfl w.heap.size es.length rfl rfl (by omega) (Nat.le_refl _) ?_; intro w1 ho hb1 hs1)
  go_loopw [4] (fun i wr => ∃ k : Nat, k ≤ es.length ∧ i = .int .i64 k ∧ OwnE wr w.heap.size wr.heap.size 56 83 48 (.slice (some ⟨w.heap.size, 0, none⟩) es.length es.length) (es.take k ++ (List.replicate es.length Ent.nil).drop k) ∧ Below w.heap.size w wr) (fun i _ => es.length - (intOf i).toNat)
  case atStart => exact ⟨0, by omega, rfl, by simpa using ho, hb1⟩
  case round =>
    clear ho hb1
    obtain ⟨k, hk, rfl, ho, bw⟩ := hrel
    have hzr := bw.size
    have hgz := (ho.lt w.heap.size rfl).2.1
    by_cases hlt : k < es.length
    · obtain ⟨b, o, Ad, cd, Ap, cp, rfl, hbl, hbh, e0, e1, e2, e3, e4, hd, hp, _⟩ := (h.below bw hhi).cell hlt
      have h64 := h.e64 hlt
      have hk0 : (0 : Int) ≤ (k : Int) := by omega
      have hk1 : (k : Int) < (es.length : Int) := by omega
      have hsz := HSz.out k hlt
      have Hset := Lib.hid (ents_set hlt Ent.nil)
      have Hlen := Lib.hid (ents_len hk Ent.nil)
      have Ho := Lib.hid ho
      clear ho
      go_wp2_with (go_at_call 65; refine (toEntry_any lo hi _ _ _ _ _ (ge es k).ds (ge es k).ps wr hd hp (by omega) hsz.1 hsz.2).mono ?_; rintro e w2 ⟨vd, vp, rfl, od, op, bx⟩; obtain ⟨Ad2, cd2, rfl, _⟩ := od.form; obtain ⟨Ap2, cp2, rfl, _⟩ := op.form; have hz2 := bx.size; obtain ⟨g, hg, _, _, hcf, hput⟩ := (Ho.out.below bx (Nat.le_refl _)).put (f := ge es k) (by decide) (by decide) h64 od op (by omega) hz2 (Nat.le_refl _) (i := k) (by rw [Hlen.out]; exact hlt); injection hg with hg; injection hg with hg; subst hg; obtain ⟨⟨_, q0⟩, f0⟩ := hcf 0 (by omega); obtain ⟨⟨_, q1⟩, f1⟩ := hcf 1 (by omega); obtain ⟨⟨_, q2⟩, f2⟩ := hcf 2 (by omega); obtain ⟨⟨_, q3⟩, f3⟩ := hcf 3 (by omega); obtain ⟨⟨_, q4⟩, f4⟩ := hcf 4 (by omega); rw [Nat.add_zero] at q0 f0; rw [Hset.out] at hput; have Hput := Lib.hid hput; have Hb := Lib.hid (bw.trans (bx.mono hzr)); clear hput hcf od op bw hd hp h64)
      go_roundw
      case rel => exact ⟨k + 1, by omega, by go_num, by simpa [World.setCell] using Hput.out, (((((Hb.out.setCell (p := ⟨w.heap.size, k * 5, none⟩) (Nat.le_refl _) _).setCell (p := ⟨w.heap.size, k * 5 + 1, none⟩) (Nat.le_refl _) _).setCell (p := ⟨w.heap.size, k * 5 + 2, none⟩) (Nat.le_refl _) _).setCell (p := ⟨w.heap.size, k * 5 + 3, none⟩) (Nat.le_refl _) _).setCell (p := ⟨w.heap.size, k * 5 + 4, none⟩) (Nat.le_refl _) _)⟩
      case measure => simp [intOf]; omega
    · have He := Lib.hid (show k = es.length by omega)
      have Ho := Lib.hid ho
      clear ho
      go_wp2
      go_ret
      exact ⟨_, rfl, by have h9 := Ho.out; rw [He.out, List.take_length, List.drop_eq_nil_of_le (by rw [List.length_replicate]; exact Nat.le_refl _), List.append_nil] at h9; exact h9, bw⟩
set_option maxHeartbeats 1000000 in
theorem toMill_any (lo hi : Nat) (v : Value) (es : List Ent) (a b z : Int) (w : World) (h : ES w lo hi v es) (hhi : hi ≤ w.heap.size) (hl : es.length ≤ 1048576) (hs : ∀ k, k < es.length → (ge es k).ds.length ≤ 1048576 ∧ (ge es k).ps.length ≤ 1048576) :
    Calls Try.prog 7 #[.agg #[v, .int .i64 a, .int .i64 b, .int .i64 z]] w fun e w' => ∃ v', e = .returned (.agg #[v', .int .i64 a, .int .i64 b, .int .i64 z]) ∧ OwnE w' w.heap.size w'.heap.size 56 83 48 v' es ∧ Below w.heap.size w w' := by
  obtain ⟨A, c, rfl, hc, hm⟩ := h.form
  have hes : ∀ w1, Below w.heap.size w w1 → ES w1 lo hi (.slice A es.length c) es := fun w1 hb => h.below hb hhi
  have Hs := Lib.hid (show ∃ w1, w1 = (((w.alloc (.cells #[.slice A es.length c, .int .i64 a, .int .i64 b, .int .i64 z] 24)).alloc (.cells #[.slice none 0 0, .int .i64 0, .int .i64 0, .int .i64 0] 32)).alloc (.cells #[.slice none 0 0, .int .i64 0, .int .i64 0, .int .i64 0] 32)) ∧ Below w.heap.size w w1 ∧ w1.cell? ⟨w.heap.size, 0, none⟩ = some (.slice A es.length c) ∧ w1.cell? ⟨w.heap.size, 1, none⟩ = some (.int .i64 a) ∧ w1.cell? ⟨w.heap.size, 2, none⟩ = some (.int .i64 b) ∧ w1.cell? ⟨w.heap.size, 3, none⟩ = some (.int .i64 z) ∧ w1.cell? ⟨w.heap.size + 1, 0, none⟩ = some (.slice none 0 0) ∧ w1.cell? ⟨w.heap.size + 1, 1, none⟩ = some (.int .i64 0) ∧ w1.cell? ⟨w.heap.size + 1, 2, none⟩ = some (.int .i64 0) ∧ w1.cell? ⟨w.heap.size + 1, 3, none⟩ = some (.int .i64 0) ∧ w1.frozen? ⟨w.heap.size + 1, 0, none⟩ = false ∧ w1.frozen? ⟨w.heap.size + 1, 1, none⟩ = false ∧ w1.frozen? ⟨w.heap.size + 1, 2, none⟩ = false ∧ w1.frozen? ⟨w.heap.size + 1, 3, none⟩ = false ∧ w1.cell? ⟨w.heap.size + 1 + 1, 0, none⟩ = some (.slice none 0 0) ∧ w1.cell? ⟨w.heap.size + 1 + 1, 1, none⟩ = some (.int .i64 0) ∧ w1.cell? ⟨w.heap.size + 1 + 1, 2, none⟩ = some (.int .i64 0) ∧ w1.cell? ⟨w.heap.size + 1 + 1, 3, none⟩ = some (.int .i64 0) ∧ w1.frozen? ⟨w.heap.size + 1 + 1, 0, none⟩ = false ∧ w1.frozen? ⟨w.heap.size + 1 + 1, 1, none⟩ = false ∧ w1.frozen? ⟨w.heap.size + 1 + 1, 2, none⟩ = false ∧ w1.frozen? ⟨w.heap.size + 1 + 1, 3, none⟩ = false ∧ w.heap.size + 1 + 1 < w1.heap.size from by
    have hb : Below w.heap.size w (((w.alloc (.cells #[.slice A es.length c, .int .i64 a, .int .i64 b, .int .i64 z] 24)).alloc (.cells #[.slice none 0 0, .int .i64 0, .int .i64 0, .int .i64 0] 32)).alloc (.cells #[.slice none 0 0, .int .i64 0, .int .i64 0, .int .i64 0] 32)) := (((Below.refl _ _).alloc (Nat.le_refl _) _).alloc (by simp) _).alloc (by simp; omega) _
    exact ⟨_, rfl, hb, by go_simp, by go_simp, by go_simp, by go_simp, by go_simp, by go_simp, by go_simp, by go_simp, by go_simp, by go_simp, by go_simp, by go_simp, by go_simp, by go_simp, by go_simp, by go_simp, by go_simp, by go_simp, by go_simp, by go_simp, by simp⟩)
  go_enter Try.func7, Try.ntmps7
  go_wp2_with (fail)
  obtain ⟨w1, hw1, hb0, c00, c01, c02, c03, c10, c11, c12, c13, f10, f11, f12, f13, c20, c21, c22, c23, f20, f21, f22, f23, hz⟩ := Hs.out
  rw [← hw1]
  clear hw1 Hs
  refine (toEntryS_any lo hi _ es w1 (hes w1 hb0) (by omega) hl hs).mono ?_
  rintro e w2 ⟨v', rfl, ho, bx⟩
  replace c00 := keepB bx c00; replace c01 := keepB bx c01; replace c02 := keepB bx c02; replace c03 := keepB bx c03; replace c10 := keepB bx c10; replace c11 := keepB bx c11; replace c12 := keepB bx c12; replace c13 := keepB bx c13; replace c20 := keepB bx c20; replace c21 := keepB bx c21; replace c22 := keepB bx c22; replace c23 := keepB bx c23
  replace f10 := keepF bx (by first | (simp; done) | (simp; omega)) f10; replace f11 := keepF bx (by first | (simp; done) | (simp; omega)) f11; replace f12 := keepF bx (by first | (simp; done) | (simp; omega)) f12; replace f13 := keepF bx (by first | (simp; done) | (simp; omega)) f13; replace f20 := keepF bx (by first | (simp; done) | (simp; omega)) f20; replace f21 := keepF bx (by first | (simp; done) | (simp; omega)) f21; replace f22 := keepF bx (by first | (simp; done) | (simp; omega)) f22; replace f23 := keepF bx (by first | (simp; done) | (simp; omega)) f23
  have hb2 := hb0.trans (bx.mono (by omega))
  obtain ⟨A2, c2, rfl, _⟩ := ho.form
  have hz2 := bx.size
  have Ho := Lib.hid (ho.wide (base' := w1.heap.size) (Nat.le_refl _) (Nat.le_refl _))
  clear ho bx hb0 hes
  go_wp2
  refine bodyPost_ret (v := .agg #[.slice A2 es.length c2, .int .i64 a, .int .i64 b, .int .i64 z]) (by simp [results, Try.results7, go_sem, *]) rfl ⟨_, rfl, ?_, ?_⟩
  · have key := Ho.out.kept (w' := ((((((((w2.setCell ⟨w.heap.size + 1 + 1, 0, none⟩ (.slice A2 es.length c2)).setCell ⟨w.heap.size + 1 + 1, 1, none⟩ (.int .i64 a)).setCell ⟨w.heap.size + 1 + 1, 2, none⟩ (.int .i64 b)).setCell ⟨w.heap.size + 1 + 1, 3, none⟩ (.int .i64 z)).setCell ⟨w.heap.size + 1, 0, none⟩ (.slice A2 es.length c2)).setCell ⟨w.heap.size + 1, 1, none⟩ (.int .i64 a)).setCell ⟨w.heap.size + 1, 2, none⟩ (.int .i64 b)).setCell ⟨w.heap.size + 1, 3, none⟩ (.int .i64 z))) (fun g hg _ => by
      simp only [World.setCell, Array.getElem?_modify, if_neg (show ¬ w.heap.size + 1 + 1 = g by omega), if_neg (show ¬ w.heap.size + 1 = g by omega)])
    exact key.wide (by omega) (by simp [World.setCell])
  · exact (((((((hb2.setCell (p := ⟨_, _, _⟩) (by simp; omega) _).setCell (p := ⟨_, _, _⟩) (by simp; omega) _).setCell (p := ⟨_, _, _⟩) (by simp; omega) _).setCell (p := ⟨_, _, _⟩) (by simp; omega) _).setCell (p := ⟨_, _, _⟩) (by simp) _).setCell (p := ⟨_, _, _⟩) (by simp) _).setCell (p := ⟨_, _, _⟩) (by simp) _).setCell (p := ⟨_, _, _⟩) (by simp) _
set_option maxHeartbeats 1000000 in
theorem eqEntry_same (l1 h1 l2 h2 : Nat) (lb W L : Int) (v u v2 u2 : Value) (ds ps : List (List Int)) (w : World) (h : TS w l1 h1 5 v ds) (hp : TS w l1 h1 4 u ps) (hh : h1 ≤ w.heap.size) (k : TS w l2 h2 5 v2 ds) (kp : TS w l2 h2 4 u2 ps) (hh2 : h2 ≤ w.heap.size) :
    Calls Try.prog 71 #[.agg #[.int .i64 lb, .int .i64 W, .int .i64 L, v, u], .agg #[.int .i64 lb, .int .i64 W, .int .i64 L, v2, u2]] w fun e w' => e = .returned (.bool true) ∧ Below w.heap.size w w' := by
  obtain ⟨A, c, rfl, hc, hm⟩ := h.form
  obtain ⟨B, d, rfl, hd, hm'⟩ := hp.form
  obtain ⟨A2, c2, rfl, hc2, hm2⟩ := k.form
  obtain ⟨B2, d2, rfl, hd2, hm2'⟩ := kp.form
  have g0 : (lb != lb) = false := bne_f rfl
  have Hs := Lib.hid (show ∃ w1, w1 = ((w.alloc (.cells #[.int .i64 lb, .int .i64 W, .int .i64 L, .slice A ds.length c, .slice B ps.length d] 56)).alloc (.cells #[.int .i64 lb, .int .i64 W, .int .i64 L, .slice A2 ds.length c2, .slice B2 ps.length d2] 56)) ∧ Below w.heap.size w w1 ∧ w1.cell? ⟨w.heap.size, 0, none⟩ = some (.int .i64 lb) ∧ w1.cell? ⟨w.heap.size, 1, none⟩ = some (.int .i64 W) ∧ w1.cell? ⟨w.heap.size, 2, none⟩ = some (.int .i64 L) ∧ w1.cell? ⟨w.heap.size, 3, none⟩ = some (.slice A ds.length c) ∧ w1.cell? ⟨w.heap.size, 4, none⟩ = some (.slice B ps.length d) ∧ w1.cell? ⟨w.heap.size + 1, 0, none⟩ = some (.int .i64 lb) ∧ w1.cell? ⟨w.heap.size + 1, 1, none⟩ = some (.int .i64 W) ∧ w1.cell? ⟨w.heap.size + 1, 2, none⟩ = some (.int .i64 L) ∧ w1.cell? ⟨w.heap.size + 1, 3, none⟩ = some (.slice A2 ds.length c2) ∧ w1.cell? ⟨w.heap.size + 1, 4, none⟩ = some (.slice B2 ps.length d2) ∧ TS w1 l1 h1 5 (.slice A ds.length c) ds ∧ TS w1 l1 h1 4 (.slice B ps.length d) ps ∧ TS w1 l2 h2 5 (.slice A2 ds.length c2) ds ∧ TS w1 l2 h2 4 (.slice B2 ps.length d2) ps ∧ w.heap.size + 1 < w1.heap.size from by
    have hb : Below w.heap.size w ((w.alloc (.cells #[.int .i64 lb, .int .i64 W, .int .i64 L, .slice A ds.length c, .slice B ps.length d] 56)).alloc (.cells #[.int .i64 lb, .int .i64 W, .int .i64 L, .slice A2 ds.length c2, .slice B2 ps.length d2] 56)) := ((Below.refl _ _).alloc (Nat.le_refl _) _).alloc (by simp) _
    exact ⟨_, rfl, hb, by go_simp, by go_simp, by go_simp, by go_simp, by go_simp, by go_simp, by go_simp, by go_simp, by go_simp, by go_simp, h.below hb hh, hp.below hb hh, k.below hb hh2, kp.below hb hh2, by simp⟩)
  go_enter Try.func71, Try.ntmps71
  go_wp2_with (fail)
  obtain ⟨w1, hw1, hb0, c00, c01, c02, c03, c04, c10, c11, c12, c13, c14, hT0, hT1, hT2, hT3, hz⟩ := Hs.out
  rw [← hw1]
  clear hw1 Hs
  refine (eqReel_same W L _ _ _ _ _ _ ds w1 hT0 (by omega) hT2 (by omega)).mono ?_
  rintro e w2 ⟨rfl, bx⟩
  replace c00 := keepB bx c00; replace c01 := keepB bx c01; replace c02 := keepB bx c02; replace c03 := keepB bx c03; replace c04 := keepB bx c04; replace c10 := keepB bx c10; replace c11 := keepB bx c11; replace c12 := keepB bx c12; replace c13 := keepB bx c13; replace c14 := keepB bx c14
  have hz2 := bx.size
  go_wp2_with (fail)
  refine (eqPartS_same _ _ _ _ _ _ ps w2 (hT1.below bx (by omega)) (by omega) (hT3.below bx (by omega)) (by omega)).mono ?_
  rintro e w3 ⟨rfl, bx2⟩
  go_wp2
  go_ret
  exact ⟨rfl, hb0.trans ((bx.trans (bx2.mono hz2)).mono (by omega))⟩
set_option maxRecDepth 100000 in
set_option maxHeartbeats 2000000 in
theorem eqEntryS_same (l1 h1 l2 h2 : Nat) (v u : Value) (es : List Ent) (w : World) (h : ES w l1 h1 v es) (hh : h1 ≤ w.heap.size) (hy : ES w l2 h2 u es) (hh2 : h2 ≤ w.heap.size) :
    Calls Try.prog 36 #[v, u] w fun e w' => e = .returned (.bool true) ∧ Below w.heap.size w w' := by
  obtain ⟨A, c, rfl, hc, hm⟩ := h.form
  obtain ⟨B, d, rfl, hd, hm'⟩ := hy.form
  have hl' : ((es.length : Int) != (es.length : Int)) = false := bne_f rfl
  go_enter Try.func36, Try.ntmps36
  go_wp2
  clear hl'
  go_loopw [5] (fun i wr => ∃ k : Nat, k ≤ es.length ∧ i = .int .i64 k ∧ Below w.heap.size w wr) (fun i _ => es.length - (intOf i).toNat)
  case atStart => exact ⟨0, by omega, rfl, Below.refl _ _⟩
  case round =>
    obtain ⟨k, hk, rfl, bw⟩ := hrel
    have hzr := bw.size
    by_cases hlt : k < es.length
    · obtain ⟨b, o, Ad, cd, Ap, cp, rfl, _, _, e0, e1, e2, e3, e4, hd1, hp1, _⟩ := (h.below bw hh).cell hlt
      obtain ⟨b2, o2, Ad2, cd2, Ap2, cp2, rfl, _, _, f0, f1, f2, f3, f4, hd2, hp2, _⟩ := (hy.below bw hh2).cell hlt
      have Hd1 := Lib.hid hd1
      have Hp1 := Lib.hid hp1
      have Hd2 := Lib.hid hd2
      have Hp2 := Lib.hid hp2
      clear h hy hd1 hp1 hd2 hp2
      have hk0 : (0 : Int) ≤ (k : Int) := by omega
      have hk1 : (k : Int) < (es.length : Int) := by omega
      go_wp2
      refine wp_region_held_drew (S := fun w' => w'.cell? ⟨b, o + k * 5, none⟩ = some (.int .i64 (ge es k).lb) ∧ w'.cell? ⟨b, o + k * 5 + 1, none⟩ = some (.int .i64 (ge es k).W) ∧ w'.cell? ⟨b, o + k * 5 + 2, none⟩ = some (.int .i64 (ge es k).L) ∧ w'.cell? ⟨b, o + k * 5 + 3, none⟩ = some (.slice Ad (ge es k).ds.length cd) ∧ w'.cell? ⟨b, o + k * 5 + 4, none⟩ = some (.slice Ap (ge es k).ps.length cp) ∧ w'.cell? ⟨b2, o2 + k * 5, none⟩ = some (.int .i64 (ge es k).lb) ∧ w'.cell? ⟨b2, o2 + k * 5 + 1, none⟩ = some (.int .i64 (ge es k).W) ∧ w'.cell? ⟨b2, o2 + k * 5 + 2, none⟩ = some (.int .i64 (ge es k).L) ∧ w'.cell? ⟨b2, o2 + k * 5 + 3, none⟩ = some (.slice Ad2 (ge es k).ds.length cd2) ∧ w'.cell? ⟨b2, o2 + k * 5 + 4, none⟩ = some (.slice Ap2 (ge es k).ps.length cp2)) (by kernel_rfl) ?_ (fun hHeld => ?_)
      · (first | (try dsimp only); go_keep | (go_split_ands; refine ⟨?_, ?_, ?_, ?_, ?_, ?_, ?_, ?_, ?_, ?_⟩ <;> first | exact keepB bx2 (by assumption) | exact keepB bx1 (by assumption) | assumption))
      refine wpAnyH_take (i := 0) (oi := ⟨some 17, _, _, _, _, _⟩) (v := _) rfl (by kernel_rfl) (by kernel_rfl) (by kernel_rfl) (fun _ _ _ h => h) (Or.inl ⟨by kernel_rfl, by intro w hSw; (try dsimp only at hSw); go_simp; try with_reducible rfl⟩) (by assumption) ?_
      simp only [Act.put, List.setIfInBounds_toArray, List.set_cons_zero, List.set_cons_succ]
      refine wpAnyH_take (i := 1) (oi := ⟨some 18, _, _, _, _, _⟩) (v := _) rfl (by kernel_rfl) (by kernel_rfl) (by kernel_rfl) (fun _ _ _ h => h) (Or.inl ⟨by kernel_rfl, by intro w hSw; (try dsimp only at hSw); go_simp; try with_reducible rfl⟩) (by assumption) ?_
      simp only [Act.put, List.setIfInBounds_toArray, List.set_cons_zero, List.set_cons_succ]
      refine wpAnyH_take (i := 2) (oi := ⟨some 19, _, _, _, _, _⟩) (v := _) rfl (by kernel_rfl) (by kernel_rfl) (by kernel_rfl) (fun _ _ _ h => h) (Or.inl ⟨by kernel_rfl, by intro w hSw; (try dsimp only at hSw); go_simp; try with_reducible rfl⟩) (by assumption) ?_
      simp only [Act.put, List.setIfInBounds_toArray, List.set_cons_zero, List.set_cons_succ]
      refine wpAnyH_take (i := 3) (oi := ⟨some 20, _, _, _, _, _⟩) (v := _) rfl (by kernel_rfl) (by kernel_rfl) (by kernel_rfl) (fun _ _ _ h => h) (Or.inl ⟨by kernel_rfl, by intro w hSw; (try dsimp only at hSw); go_simp; try with_reducible rfl⟩) (by assumption) ?_
      simp only [Act.put, List.setIfInBounds_toArray, List.set_cons_zero, List.set_cons_succ]
      refine wpAnyH_take (i := 4) (oi := ⟨some 21, _, _, _, _, _⟩) (v := _) rfl (by kernel_rfl) (by kernel_rfl) (by kernel_rfl) (fun _ _ _ h => h) (Or.inl ⟨by kernel_rfl, by intro w hSw; (try dsimp only at hSw); go_simp; try with_reducible rfl⟩) (by assumption) ?_
      simp only [Act.put, List.setIfInBounds_toArray, List.set_cons_zero, List.set_cons_succ]
      refine wpAnyH_take (i := 5) (oi := ⟨some 22, _, _, _, _, _⟩) (v := _) rfl (by kernel_rfl) (by kernel_rfl) (by kernel_rfl) (fun _ _ _ h => h) (Or.inl ⟨by kernel_rfl, by intro w hSw; (try dsimp only at hSw); go_simp; try with_reducible rfl⟩) (by assumption) ?_
      simp only [Act.put, List.setIfInBounds_toArray, List.set_cons_zero, List.set_cons_succ]
      refine wpAnyH_take (i := 6) (oi := ⟨some 23, _, _, _, _, _⟩) (v := _) rfl (by kernel_rfl) (by kernel_rfl) (by kernel_rfl) (fun _ _ _ h => h) (Or.inl ⟨by kernel_rfl, by intro w hSw; (try dsimp only at hSw); go_simp; try with_reducible rfl⟩) (by assumption) ?_
      simp only [Act.put, List.setIfInBounds_toArray, List.set_cons_zero, List.set_cons_succ]
      refine wpAnyH_take (i := 7) (oi := ⟨some 24, _, _, _, _, _⟩) (v := _) rfl (by kernel_rfl) (by kernel_rfl) (by kernel_rfl) (fun _ _ _ h => h) (Or.inl ⟨by kernel_rfl, by intro w hSw; (try dsimp only at hSw); go_simp; try with_reducible rfl⟩) (by assumption) ?_
      simp only [Act.put, List.setIfInBounds_toArray, List.set_cons_zero, List.set_cons_succ]
      refine wpAnyH_ready (rs := [8]) (by kernel_rfl) (by simp) ?_
      refine AllReadyH.cons (o := ⟨some 25, _, _, _, _, _⟩) rfl (fun K hK => ?_) AllReadyH.nil
      go_simp
      go_at_call 71
      refine (eqEntry_same _ _ _ _ _ _ _ _ _ _ _ _ _ _ (Hd1.out.drewN 1) (Hp1.out.drewN 1) (by simp; omega) (Hd2.out.drewN 1) (Hp2.out.drewN 1) (by simp; omega)).mono ?_
      rintro e x1 ⟨rfl, bx1⟩
      go_wp2_with fail
      refine hK.out _ _ ?_ (fun hHeld2 => ?_)
      · (first | (try dsimp only); go_keep | (go_split_ands; refine ⟨?_, ?_, ?_, ?_, ?_, ?_, ?_, ?_, ?_, ?_⟩ <;> first | exact keepB bx2 (by assumption) | exact keepB bx1 (by assumption) | assumption))
      clear hK K hHeld
      have hHeld := hHeld2
      clear hHeld2
      try simp only [Act.put, List.setIfInBounds_toArray, List.set_cons_zero, List.set_cons_succ]
      refine wpAnyH_take (i := 9) (oi := ⟨some 26, _, _, _, _, _⟩) (v := _) rfl (by kernel_rfl) (by kernel_rfl) (by kernel_rfl) (fun _ _ _ h => h) (Or.inl ⟨by kernel_rfl, by intro w hSw; (try dsimp only at hSw); go_simp; try with_reducible rfl⟩) (by assumption) ?_
      simp only [Act.put, List.setIfInBounds_toArray, List.set_cons_zero, List.set_cons_succ]
      refine wpAnyH_done (by kernel_rfl) ?_ _
      have bx2 := of_drew bx1
      go_wp2
      go_roundw
      case rel => exact ⟨k + 1, by omega, by go_num, bw.trans (bx2.mono bw.size)⟩
      case measure => simp [intOf]; omega
    · go_wp2
      go_ret
      exact ⟨rfl, bw⟩
set_option maxHeartbeats 1000000 in
theorem eqMill_same (l1 h1 l2 h2 : Nat) (v u : Value) (es : List Ent) (a b z : Int) (w : World) (h : ES w l1 h1 v es) (hh : h1 ≤ w.heap.size) (hy : ES w l2 h2 u es) (hh2 : h2 ≤ w.heap.size) :
    Calls Try.prog 11 #[.agg #[v, .int .i64 a, .int .i64 b, .int .i64 z], .agg #[u, .int .i64 a, .int .i64 b, .int .i64 z]] w fun e w' => e = .returned (.bool true) ∧ Below w.heap.size w w' := by
  obtain ⟨A, c, rfl, hc, hm⟩ := h.form
  obtain ⟨B, d, rfl, hd, hm'⟩ := hy.form
  have hes : ∀ w1, Below w.heap.size w w1 → ES w1 l1 h1 (.slice A es.length c) es ∧ ES w1 l2 h2 (.slice B es.length d) es := fun w1 hb => ⟨h.below hb hh, hy.below hb hh2⟩
  have g0 : (a != a) = false := bne_f rfl
  have g1 : (b != b) = false := bne_f rfl
  have g2 : (z != z) = false := bne_f rfl
  have Hs := Lib.hid (show ∃ w1, w1 = ((w.alloc (.cells #[.slice A es.length c, .int .i64 a, .int .i64 b, .int .i64 z] 32)).alloc (.cells #[.slice B es.length d, .int .i64 a, .int .i64 b, .int .i64 z] 32)) ∧ Below w.heap.size w w1 ∧ w1.cell? ⟨w.heap.size, 0, none⟩ = some (.slice A es.length c) ∧ w1.cell? ⟨w.heap.size, 1, none⟩ = some (.int .i64 a) ∧ w1.cell? ⟨w.heap.size, 2, none⟩ = some (.int .i64 b) ∧ w1.cell? ⟨w.heap.size, 3, none⟩ = some (.int .i64 z) ∧ w1.cell? ⟨w.heap.size + 1, 0, none⟩ = some (.slice B es.length d) ∧ w1.cell? ⟨w.heap.size + 1, 1, none⟩ = some (.int .i64 a) ∧ w1.cell? ⟨w.heap.size + 1, 2, none⟩ = some (.int .i64 b) ∧ w1.cell? ⟨w.heap.size + 1, 3, none⟩ = some (.int .i64 z) ∧ w.heap.size + 1 < w1.heap.size from by
    have hb : Below w.heap.size w ((w.alloc (.cells #[.slice A es.length c, .int .i64 a, .int .i64 b, .int .i64 z] 32)).alloc (.cells #[.slice B es.length d, .int .i64 a, .int .i64 b, .int .i64 z] 32)) := ((Below.refl _ _).alloc (Nat.le_refl _) _).alloc (by simp) _
    exact ⟨_, rfl, hb, by go_simp, by go_simp, by go_simp, by go_simp, by go_simp, by go_simp, by go_simp, by go_simp, by simp⟩)
  go_enter Try.func11, Try.ntmps11
  go_wp2_with (fail)
  obtain ⟨w1, hw1, hb0, c00, c01, c02, c03, c10, c11, c12, c13, hz⟩ := Hs.out
  rw [← hw1]
  clear hw1 Hs
  refine (eqEntryS_same _ _ _ _ _ _ es w1 (hes w1 hb0).1 (by omega) (hes w1 hb0).2 (by omega)).mono ?_
  rintro e w2 ⟨rfl, bx⟩
  replace c00 := keepB bx c00; replace c01 := keepB bx c01; replace c02 := keepB bx c02; replace c03 := keepB bx c03; replace c10 := keepB bx c10; replace c11 := keepB bx c11; replace c12 := keepB bx c12; replace c13 := keepB bx c13
  go_wp2
  go_ret
  exact ⟨rfl, hb0.trans (bx.mono (by omega))⟩
end Go.Proofs.Ytkgepklapglmdaa
