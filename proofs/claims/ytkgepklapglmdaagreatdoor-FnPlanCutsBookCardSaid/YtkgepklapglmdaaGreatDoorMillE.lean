/-
  Lemmas and contracts of single functions of this program, used by the proofs of its laws: what each call returns and what becomes of memory. Conditions: the hypotheses of each theorem.
-/
import Derived.Test.YtkgepklapglmdaaGreatDoorMillD
import Derived.Test.YtkgepklapglmdaaGreatDoorMOX
import Derived.Test.YtkgepklapglmdaaGreatDoorMillG
import Derived.Test.YtkgepklapglmdaaGreatDoorRegLast
namespace Go.Proofs.YtkgepklapglmdaaGreatDoor
open Go.RowKit
attribute [local go_sem ↓] Go.wp_at_zero Go.wp_at_succ

theorem TS.nil (w : World) (lo hi k : Nat) : TS w lo hi k (.slice none 0 0) [] := ⟨none, 0, rfl, by simp, by simp [maxLen], ⟨by simp [flatT], fun h => absurd h (by simp)⟩, by simp⟩
theorem adS_len (f : Ent) (es : List Ent) (k : Nat) : (adS f es k).length ≤ es.length + 1 := by
  unfold adS
  split
  · rw [insE_len, List.length_take]; omega
  · rw [List.length_take]; omega
theorem OwnX.apart {w : World} {base lo hi tE : Nat} {v : Value} {es : List Ent} (h : OwnX w base lo hi tE v es) {B : Nat} {cs : Array Value} {t : TypeId} (hp : w.heap[B]? = some (.cells cs t (0, 0))) (h1 : tE ≠ t) : some B ≠ v.ownBlock := by
  obtain ⟨c9, vd, vp, k1, _⟩ := h
  intro e
  obtain ⟨cur, hc⟩ := own_home k1 e.symm
  rw [hp] at hc
  simp at hc
  exact h1 hc.2.symm
theorem OwnX.setFar {w : World} {base lo hi tE : Nat} {v : Value} {es : List Ent} (h : OwnX w base lo hi tE v es) {p : Addr} (h1 : some p.block ≠ v.ownBlock) (h2 : p.block < lo ∨ hi ≤ p.block) (u : Value) : OwnX (w.setCell p u) base lo hi tE v es := by
  obtain ⟨cs, vd, vp, k1, k2⟩ := h
  have hk : Kept lo hi w (w.setCell p u) := fun g hg1 hg2 => Below.heap_setCell w _ _ g (by intro e; subst e; omega)
  refine ⟨cs, vd, vp, ownsRow_keptBlock k1 fun g hg => Below.heap_setCell w _ _ g (by intro e; subst e; exact h1 hg.symm), fun k hkl => ?_⟩
  obtain ⟨a, b, c, d⟩ := k2 k hkl
  exact ⟨a, b, c.kept hk, d.kept hk⟩
theorem new_apart {v v' : Value} {F g : Nat} (h : some F ≠ v.ownBlock) (hb : v'.ownBlock = v.ownBlock ∨ v'.ownBlock = some g) (hg : F ≠ g) : some F ≠ v'.ownBlock := by
  rcases hb with e | e <;> rw [e]
  · exact h
  · intro e2; injection e2 with e2; exact hg e2
/-- the mill that grows (block B), the new entry beside it (block F) -/
def OutM (w : World) (base lo hi tE tM B F : Nat) (u : Value) (es : List Ent) (a b z lb W L : Int) : Prop :=
  OwnX w base lo hi tE u es ∧ (w.cell? ⟨B, 0, none⟩ = some u ∧ w.cell? ⟨B, 1, none⟩ = some (.int .i64 a) ∧ w.cell? ⟨B, 2, none⟩ = some (.int .i64 b) ∧ w.cell? ⟨B, 3, none⟩ = some (.int .i64 z) ∧ w.frozen? ⟨B, 0, none⟩ = false) ∧ (∃ cs, w.heap[B]? = some (.cells cs tM (0, 0))) ∧
    (w.cell? ⟨F, 0, none⟩ = some (.int .i64 lb) ∧ w.cell? ⟨F, 1, none⟩ = some (.int .i64 W) ∧ w.cell? ⟨F, 2, none⟩ = some (.int .i64 L) ∧ w.cell? ⟨F, 3, none⟩ = some (.slice none 0 0) ∧ w.cell? ⟨F, 4, none⟩ = some (.slice none 0 0)) ∧ some F ≠ u.ownBlock
theorem OutM.step {w w2 : World} {base lo hi tE tM B F g : Nat} {u v : Value} {es fs : List Ent} {a b z lb W L : Int} (h : OutM w base lo hi tE tM B F u es a b z lb W L) (hT : tE ≠ tM) (hBF : ¬ B = F) (hhi : hi ≤ B) (ho : OwnX w2 base lo hi tE v fs) (hg : Grew base u v w w2) (hb : v.ownBlock = u.ownBlock ∨ v.ownBlock = some g) (hw : w.heap.size ≤ g) :
    OutM (w2.setCell ⟨B, 0, none⟩ v) base lo hi tE tM B F v fs a b z lb W L := by
  obtain ⟨h1, ⟨q0, q1, q2, q3, fq⟩, ⟨cs, hB⟩, ⟨p0, p1, p2, p3, p4⟩, hF⟩ := h
  have hBz : B < w.heap.size := (Array.getElem?_eq_some_iff.1 hB).1
  have hFz : F < w.heap.size := World.block_lt_of_cell? w _ p0
  have e1 := hg.other B hBz (h1.apart hB hT)
  have e2 := hg.other F hFz hF
  have e3 : (w2.setCell ⟨B, 0, none⟩ v).heap[F]? = w.heap[F]? := (Below.heap_setCell w2 _ _ F (Ne.symm hBF)).trans e2
  have hB2 : w2.heap[B]? = some (.cells cs tM (0, 0)) := e1.trans hB
  have hF2 : some F ≠ v.ownBlock := new_apart hF hb (by omega)
  have hB3 : some B ≠ v.ownBlock := ho.apart hB2 hT
  have fr := frozen_same e1 fq
  have k0 := cell_same e1 q0
  have k1 := cell_same e1 q1
  have k2 := cell_same e1 q2
  have k3 := cell_same e1 q3
  refine ⟨ho.setFar hB3 (.inr hhi) v, ⟨by go_simp, by go_simp, by go_simp, by go_simp, by go_simp⟩, block_set ⟨cs, hB2⟩ _ _, ⟨cell_same e3 p0, cell_same e3 p1, cell_same e3 p2, cell_same e3 p3, cell_same e3 p4⟩, hF2⟩
theorem below_drew {B : Nat} {w x : World} (h : Below B w.drew x) : Below B w x := ⟨h.os, h.tape, h.output, h.size, h.block⟩
theorem OwnX.base {w : World} {base base' lo hi tE : Nat} {v : Value} {es : List Ent} (h : OwnX w base lo hi tE v es) (hb : base' ≤ base) : OwnX w base' lo hi tE v es := by
  obtain ⟨cs, vd, vp, h1, h2⟩ := h
  exact ⟨cs, vd, vp, ownsRow_base h1 hb, h2⟩
theorem OutM.mid {w w2 : World} {base lo hi tE tM B F : Nat} {u v : Value} {es : List Ent} {a b z lb W L : Int} (h : OutM w base lo hi tE tM B F u es a b z lb W L) (hT : tE ≠ tM) (hg : Grew base u v w w2) : w2.cell? ⟨B, 0, none⟩ = some u ∧ w2.frozen? ⟨B, 0, none⟩ = false := by
  obtain ⟨h1, ⟨q0, q1, q2, q3, fq⟩, ⟨cs, hB⟩, _⟩ := h
  have e1 := hg.other B (Array.getElem?_eq_some_iff.1 hB).1 (h1.apart hB hT)
  exact ⟨cell_same e1 q0, frozen_same e1 fq⟩
theorem OutM.drew {w : World} {base lo hi tE tM B F : Nat} {u : Value} {es : List Ent} {a b z lb W L : Int} (h : OutM w base lo hi tE tM B F u es a b z lb W L) : OutM w.drew base lo hi tE tM B F u es a b z lb W L := h
set_option maxRecDepth 100000 in
set_option maxHeartbeats 4000000 in
theorem addReel_any (lo hi : Nat) (v : Value) (es : List Ent) (a b z lb W L : Int) (w : World) (h : ES w lo hi v es) (hhi : hi ≤ w.heap.size) (hl : es.length ≤ 1000) (hlb : I64 lb) (ha : 0 ≤ a ∧ a ≤ 900000) (hW : 1 ≤ W ∧ W ≤ 60) (hL : 1 ≤ L ∧ L ≤ 400) :
    Calls Tryz.prog 118 #[.agg #[v, .int .i64 a, .int .i64 b, .int .i64 z], .int .i64 lb, .int .i64 W, .int .i64 L] w fun e w' => ∃ v', e = .returned (.agg #[v', .int .i64 (a + W * L), .int .i64 b, .int .i64 z]) ∧ OwnX w' w.heap.size lo hi 58 v' (insE ⟨lb, W, L, [], []⟩ es) ∧ Below w.heap.size w w' := by
  obtain ⟨A, c, rfl, hc, hm⟩ := h.form
  have hes : ∀ w1, Below w.heap.size w w1 → ES w1 lo hi (.slice A es.length c) es := fun w1 hb => h.below hb hhi
  have m0 : 0 ≤ W * L := Int.mul_nonneg (by omega) (by omega)
  have m1 : W * L ≤ 60 * 400 := Int.mul_le_mul (by omega) (by omega) (by omega) (by omega)
  have g1 : wrap64 (W * L) = W * L := w64 (by omega)
  have g2 : wrap64 (a + W * L) = a + W * L := w64 (by omega)
  have g3 : IntKind.i64.wrap (W * L) = W * L := IntWalk.i64_in _ (by omega)
  have g4 : IntKind.i64.wrap (a + W * L) = a + W * L := IntWalk.i64_in _ (by omega)
  have Hs := Lib.hid (show ∃ w1, w1 = ((w.alloc (.cells #[.slice A es.length c, .int .i64 a, .int .i64 b, .int .i64 z] 25)).alloc (.cells #[.slice none 0 0, .int .i64 0, .int .i64 0, .int .i64 0] 25)) ∧ Below w.heap.size w w1 ∧ w1.cell? ⟨w.heap.size, 0, none⟩ = some (.slice A es.length c) ∧ w1.cell? ⟨w.heap.size, 1, none⟩ = some (.int .i64 a) ∧ w1.cell? ⟨w.heap.size, 2, none⟩ = some (.int .i64 b) ∧ w1.cell? ⟨w.heap.size, 3, none⟩ = some (.int .i64 z) ∧ w1.cell? ⟨w.heap.size + 1, 0, none⟩ = some (.slice none 0 0) ∧ w1.cell? ⟨w.heap.size + 1, 1, none⟩ = some (.int .i64 0) ∧ w1.cell? ⟨w.heap.size + 1, 2, none⟩ = some (.int .i64 0) ∧ w1.cell? ⟨w.heap.size + 1, 3, none⟩ = some (.int .i64 0) ∧ w1.frozen? ⟨w.heap.size + 1, 0, none⟩ = false ∧ w1.frozen? ⟨w.heap.size + 1, 1, none⟩ = false ∧ w1.frozen? ⟨w.heap.size + 1, 2, none⟩ = false ∧ w1.frozen? ⟨w.heap.size + 1, 3, none⟩ = false ∧ w.heap.size + 1 < w1.heap.size from by
    have hb : Below w.heap.size w ((w.alloc (.cells #[.slice A es.length c, .int .i64 a, .int .i64 b, .int .i64 z] 25)).alloc (.cells #[.slice none 0 0, .int .i64 0, .int .i64 0, .int .i64 0] 25)) := ((Below.refl _ _).alloc (Nat.le_refl _) _).alloc (by simp) _
    exact ⟨_, rfl, hb, by go_simp, by go_simp, by go_simp, by go_simp, by go_simp, by go_simp, by go_simp, by go_simp, by go_simp, by go_simp, by go_simp, by go_simp, by simp⟩)
  go_enter Tryz.func118, Tryz.ntmps118
  go_wp2
  obtain ⟨w1, hw1, hb0, c00, c01, c02, c03, c10, c11, c12, c13, f10, f11, f12, f13, hz⟩ := Hs.out
  have HZ := Lib.hid (show w1.heap.size = w.heap.size + 1 + 1 by rw [hw1]; simp)
  rw [← hw1]
  clear hw1 Hs
  have he1 := hes w1 hb0
  clear hes h
  obtain ⟨a2, ha2⟩ : ∃ a2, a2 = a + W * L := ⟨_, rfl⟩
  rw [← ha2]
  have Hf := Lib.hid (show E64 ⟨lb, W, L, [], []⟩ from ⟨hlb, ⟨by show _ ≤ W; omega, by show W ≤ _; omega⟩, ⟨by show _ ≤ L; omega, by show L ≤ _; omega⟩⟩)
  have HL := Lib.hid (fun k => adS_len ⟨lb, W, L, [], []⟩ es k)
  obtain ⟨f, hf⟩ : ∃ f : Ent, f = ⟨lb, W, L, [], []⟩ := ⟨_, rfl⟩
  have Hfe := Lib.hid hf
  have hf0 : f.lb = lb := by rw [hf]
  rw [← hf] at Hf HL
  have Ha2 := Lib.hid ha2
  clear hf g1 g2 g3 g4 m0 m1 ha2
  obtain ⟨w3, hw3⟩ : ∃ w3, w3 = ((w1.alloc (.cells #[] 58)).alloc (.cells #[.slice (some ⟨w.heap.size + 1 + 1, 0, none⟩) 0 0, .int .i64 a2, .int .i64 b, .int .i64 z] 25)).alloc (.cells #[.int .i64 lb, .int .i64 W, .int .i64 L, .slice none 0 0, .slice none 0 0] 58) := ⟨_, rfl⟩
  have b3 : Below w1.heap.size w1 w3 := by rw [hw3]; exact (((Below.refl _ _).alloc (Nat.le_refl _) _).alloc (by simp) _).alloc (by simp; omega) _
  have q0 : w3.cell? ⟨w1.heap.size + 1, 0, none⟩ = some (.slice (some ⟨w.heap.size + 1 + 1, 0, none⟩) 0 0) := by rw [hw3]; go_simp
  have q1 : w3.cell? ⟨w1.heap.size + 1, 1, none⟩ = some (.int .i64 a2) := by rw [hw3]; go_simp
  have q2 : w3.cell? ⟨w1.heap.size + 1, 2, none⟩ = some (.int .i64 b) := by rw [hw3]; go_simp
  have q3 : w3.cell? ⟨w1.heap.size + 1, 3, none⟩ = some (.int .i64 z) := by rw [hw3]; go_simp
  have fq0 : w3.frozen? ⟨w1.heap.size + 1, 0, none⟩ = false := by rw [hw3]; go_simp
  have p0 : w3.cell? ⟨w1.heap.size + 1 + 1, 0, none⟩ = some (.int .i64 lb) := by rw [hw3]; go_simp
  have p1 : w3.cell? ⟨w1.heap.size + 1 + 1, 1, none⟩ = some (.int .i64 W) := by rw [hw3]; go_simp
  have p2 : w3.cell? ⟨w1.heap.size + 1 + 1, 2, none⟩ = some (.int .i64 L) := by rw [hw3]; go_simp
  have p3 : w3.cell? ⟨w1.heap.size + 1 + 1, 3, none⟩ = some (.slice none 0 0) := by rw [hw3]; go_simp
  have p4 : w3.cell? ⟨w1.heap.size + 1 + 1, 4, none⟩ = some (.slice none 0 0) := by rw [hw3]; go_simp
  have HB : Hid (∃ cs, w3.heap[w1.heap.size + 1]? = some (.cells cs 25 (0, 0))) := by
    refine ⟨#[.slice (some ⟨w.heap.size + 1 + 1, 0, none⟩) 0 0, .int .i64 a2, .int .i64 b, .int .i64 z], ?_⟩
    have e1 := heap_alloc_new (w1.alloc (.cells #[] 58)) (.cells #[.slice (some ⟨w.heap.size + 1 + 1, 0, none⟩) 0 0, .int .i64 a2, .int .i64 b, .int .i64 z] 25)
    rw [hw3, Below.heap_alloc _ _ _ (by simp), ← e1]
    simp
  have hz3 : w1.heap.size + 1 + 1 < w3.heap.size := by rw [hw3]; simp
  have ho : OwnX w3 w1.heap.size lo hi 58 (.slice (some ⟨w1.heap.size, 0, none⟩) 0 0) [] := by
    rw [hw3]
    exact (OwnX.empty w1 w1.heap.size lo hi _ (Nat.le_refl _)).kept (.of_below (((Below.refl (w1.alloc (.cells #[] 58)).heap.size _).alloc (Nat.le_refl _) _).alloc (by simp) _) (Nat.le_refl _)) (.of_below (((Below.refl (w1.alloc (.cells #[] 58)).heap.size _).alloc (Nat.le_refl _) _).alloc (by simp) _) (by simp; omega))
  rw [HZ.out] at q0 q1 q2 q3 fq0 HB p0 p1 p2 p3 p4
  have ho2 : OwnX w3 w1.heap.size lo hi 58 (.slice (some ⟨w.heap.size + 1 + 1, 0, none⟩) 0 0) [] := by
    have := ho; rw [HZ.out] at this ⊢; exact this
  rw [← hw3]
  clear hw3 ho
  have h40 : some (w.heap.size + 1 + 1 + 1 + 1) ≠ (Value.slice (some ⟨w.heap.size + 1 + 1, 0, none⟩) 0 0).ownBlock := by show some _ ≠ some _; intro e; injection e with e; have e2 : w.heap.size + 1 + 1 + 1 + 1 = w.heap.size + 1 + 1 := e; omega
  have HO := Lib.hid (show OutM w3 w1.heap.size lo hi 58 25 (w.heap.size + 1 + 1 + 1) (w.heap.size + 1 + 1 + 1 + 1) (.slice (some ⟨w.heap.size + 1 + 1, 0, none⟩) 0 0) [] a2 b z lb W L from ⟨ho2, ⟨q0, q1, q2, q3, fq0⟩, HB, ⟨p0, p1, p2, p3, p4⟩, h40⟩)
  clear q0 q1 q2 q3 fq0 HB ho2 p0 p1 p2 p3 p4 h40 hz3
  go_loopw [11, 12] (fun dn i wr => ∃ (k : Nat) (u : Value), k ≤ es.length ∧ i = .int .i64 k ∧ dn = .bool (anyB lb es k) ∧ Below w1.heap.size w1 wr ∧ Hid (OutM wr w1.heap.size lo hi 58 25 (w.heap.size + 1 + 1 + 1) (w.heap.size + 1 + 1 + 1 + 1) u (adS f es k) a2 b z lb W L)) (fun _ i _ => es.length - (intOf i).toNat)
  case atStart => exact ⟨0, _, by omega, rfl, rfl, b3, HO⟩
  case round =>
    clear HO b3
    obtain ⟨k, u, hk, rfl, rfl, bw, HO⟩ := hrel
    obtain ⟨ho, ⟨q0, q1, q2, q3, fq0⟩, _, ⟨p0, p1, p2, p3, p4⟩, _⟩ := HO.out
    have hzr := bw.size
    have hBz : w.heap.size + 1 + 1 + 1 + 1 < wr.heap.size := World.block_lt_of_cell? wr _ p0
    replace c00 := keepB bw c00; replace c01 := keepB bw c01; replace c02 := keepB bw c02; replace c03 := keepB bw c03; replace c10 := keepB bw c10; replace c11 := keepB bw c11; replace c12 := keepB bw c12; replace c13 := keepB bw c13
    replace f10 := keepF bw (by first | (simp; done) | (simp; omega)) f10; replace f11 := keepF bw (by first | (simp; done) | (simp; omega)) f11; replace f12 := keepF bw (by first | (simp; done) | (simp; omega)) f12; replace f13 := keepF bw (by first | (simp; done) | (simp; omega)) f13
    obtain ⟨Au, cu, hu, hcu, hmu⟩ := ho.form
    obtain ⟨nu, hnu⟩ : ∃ n, n = (adS f es k).length := ⟨_, rfl⟩
    rw [← hnu] at hu hcu
    subst hu
    have hnl : nu ≤ 1001 := by have := HL.out k; omega
    have Hnu := Lib.hid hnu
    clear hnu
    by_cases hlt : k < es.length
    · have her := he1.below bw (by omega)
      have h64 := her.e64 hlt
      obtain ⟨b9, o, Ad, cd, Ap, cp, rfl, hl9, hh9, e0, e1, e2, e3, e4, hd, hp, _⟩ := her.cell hlt
      have hk0 : (0 : Int) ≤ (k : Int) := by omega
      have hk1 : (k : Int) < (es.length : Int) := by omega
      have Ho := Lib.hid ho
      have Hp := Lib.hid hp
      have Hd := Lib.hid hd
      have Hb := Lib.hid bw
      have H64 := Lib.hid h64
      clear ho hd hp bw her h64
      obtain ⟨dn, hdn⟩ : ∃ dn, dn = anyB lb es k := ⟨_, rfl⟩
      rw [← hdn]
      have Hdn := Lib.hid hdn.symm
      clear hdn
      by_cases hins : dn = false ∧ lb < (ge es k).lb
      · obtain ⟨rfl, hlt2⟩ := hins
        have HA1 := Lib.hid (show anyB lb es (k + 1) = true by rw [anyB_succ hlt, decide_eq_true hlt2, Bool.or_true])
        have HA2 := Lib.hid (show adS f es (k + 1) = adS f es k ++ [f] ++ [ge es k] from adS_now hlt (by rw [hf0]; exact Hdn.out) (by rw [hf0]; exact hlt2))
        go_wp2_with (at_builtin; refine halt ?roundEnd)
        case roundEnd =>
          have Ho1 : OwnX wr w1.heap.size lo hi 58 (.slice Au nu cu) (adS ⟨lb, W, L, [], []⟩ es k) := by rw [← Hfe.out]; exact Ho.out
          have Hf1 : E64 ⟨lb, W, L, [], []⟩ := by rw [← Hfe.out]; exact Hf.out
          refine wpList_appendX' SlEntry wr rfl (.tmp 50) (.tmp 52) rfl ⟨lb, W, L, [], []⟩ (.slice none 0 0) (.slice none 0 0) w1.heap.size lo hi (.slice Au nu cu) _ rfl rfl Ho1 Hf1 (TS.nil _ _ _ _) (TS.nil _ _ _ _) (by omega) (by have := HZ.out; omega) (by rw [← Hfe.out, ← Hnu.out]; omega) ?_
          clear Ho1 Hf1
          intro v1 w2 ho1 g1 hb1
          rw [← Hfe.out] at ho1
          obtain ⟨A1, c1, hv1, hcv1, hmv1⟩ := ho1.form
          obtain ⟨L1, hL1⟩ : ∃ L1, L1 = adS f es k ++ [f] := ⟨_, rfl⟩
          rw [← hL1] at ho1 hv1 HA2 hcv1
          obtain ⟨n1, hn1⟩ : ∃ n1, n1 = L1.length := ⟨_, rfl⟩
          rw [← hn1] at hv1 hcv1
          subst hv1
          have hn1l : n1 ≤ 1002 := by rw [hn1, hL1, List.length_append, ← Hnu.out]; simp; omega
          have Hn1 := Lib.hid hn1
          have HO2 := Lib.hid (HO.out.step (by decide) (by omega) (by omega) ho1 g1 hb1 (by omega))
          obtain ⟨q0x, fq0x⟩ := HO.out.mid (by decide) g1
          have b2 := g1.below
          replace c00 := keepC b2 (by first | (simp; done) | (simp; omega)) c00; replace c01 := keepC b2 (by first | (simp; done) | (simp; omega)) c01; replace c02 := keepC b2 (by first | (simp; done) | (simp; omega)) c02; replace c03 := keepC b2 (by first | (simp; done) | (simp; omega)) c03; replace c10 := keepC b2 (by first | (simp; done) | (simp; omega)) c10; replace c11 := keepC b2 (by first | (simp; done) | (simp; omega)) c11; replace c12 := keepC b2 (by first | (simp; done) | (simp; omega)) c12; replace c13 := keepC b2 (by first | (simp; done) | (simp; omega)) c13; replace e0 := keepC b2 (by first | (simp; done) | (simp; omega)) e0; replace e1 := keepC b2 (by first | (simp; done) | (simp; omega)) e1; replace e2 := keepC b2 (by first | (simp; done) | (simp; omega)) e2; replace e3 := keepC b2 (by first | (simp; done) | (simp; omega)) e3; replace e4 := keepC b2 (by first | (simp; done) | (simp; omega)) e4
          replace f10 := keepF b2 (by first | (simp; done) | (simp; omega)) f10; replace f11 := keepF b2 (by first | (simp; done) | (simp; omega)) f11; replace f12 := keepF b2 (by first | (simp; done) | (simp; omega)) f12; replace f13 := keepF b2 (by first | (simp; done) | (simp; omega)) f13
          have Hb2 := Lib.hid (Hb.out.trans b2)
          have hBz2 : w.heap.size + 1 + 1 + 1 + 1 < w2.heap.size := by have := g1.size; omega
          have Hd2 := Lib.hid (Hd.out.kept (.of_below b2 (by omega)))
          have Hp2 := Lib.hid (Hp.out.kept (.of_below b2 (by omega)))
          have hneb : ¬ b9 = w.heap.size + 1 + 1 + 1 := by omega
          have hneb2 : ¬ w.heap.size + 1 + 1 + 1 = b9 := by omega
          clear HO ho1 g1 hb1 b2 Hb Ho q0 q1 q2 q3 p0 p1 p2 p3 p4 fq0 hn1 hL1 Hd Hp
          go_wp2
          obtain ⟨wx, hwx⟩ : ∃ wx, wx = w2.setCell ⟨w.heap.size + 1 + 1 + 1, 0, none⟩ (.slice A1 n1 c1) := ⟨_, rfl⟩
          have ex : ∀ g, ¬ w.heap.size + 1 + 1 + 1 = g → wx.heap[g]? = w2.heap[g]? := fun g hg => by rw [hwx]; exact Below.heap_setCell w2 _ _ g (Ne.symm hg)
          have zx : wx.heap.size = w2.heap.size := by rw [hwx]; simp [World.setCell]
          rw [← hwx] at HO2
          have HO1 := Lib.hid HO2.out
          have Hbx := Lib.hid (show Below w1.heap.size w1 wx by rw [hwx]; exact Hb2.out.setCell (p := ⟨_, _, _⟩) (by show w1.heap.size ≤ w.heap.size + 1 + 1 + 1; have := HZ.out; omega) _)
          replace c00 := cell_same (ex _ (by omega)) c00
          replace e0 := cell_same (ex _ hneb2) e0
          replace e1 := cell_same (ex _ hneb2) e1
          replace e2 := cell_same (ex _ hneb2) e2
          replace e3 := cell_same (ex _ hneb2) e3
          replace e4 := cell_same (ex _ hneb2) e4
          have Hdx := Lib.hid (Hd2.out.kept (w' := wx) fun g _ hg => ex g (by omega))
          have Hpx := Lib.hid (Hp2.out.kept (w' := wx) fun g _ hg => ex g (by omega))
          have hBx : w.heap.size + 1 + 1 + 1 + 1 < wx.heap.size := by omega
          have q1x := HO1.out.2.1.1
          have fq1x := HO1.out.2.1.2.2.2.2
          rw [← hwx]
          clear hwx ex zx HO2 Hb2 Hd2 Hp2 q0x fq0x c01 c02 c03 c10 c11 c12 c13 f10 f11 f12 f13 hBz hBz2 hzr
          go_wp2
          refine wp_region_last (S := fun w' => w'.cell? ⟨w.heap.size, 0, none⟩ = some (.slice (some ⟨b9, o, none⟩) es.length c) ∧ w'.cell? ⟨w.heap.size + 1 + 1 + 1, 0, none⟩ = some (.slice A1 n1 c1) ∧ w'.cell? ⟨b9, o + k * 5, none⟩ = some (.int .i64 (ge es k).lb) ∧ w'.cell? ⟨b9, o + k * 5 + 1, none⟩ = some (.int .i64 (ge es k).W) ∧ w'.cell? ⟨b9, o + k * 5 + 2, none⟩ = some (.int .i64 (ge es k).L) ∧ w'.cell? ⟨b9, o + k * 5 + 3, none⟩ = some (.slice Ad (ge es k).ds.length cd) ∧ w'.cell? ⟨b9, o + k * 5 + 4, none⟩ = some (.slice Ap (ge es k).ps.length cp)) 10 (by kernel_rfl) ?_ (fun hHeld => ?_)
          · (first | (try dsimp only); go_keep | (go_split_ands; refine ⟨?_, ?_, ?_, ?_, ?_, ?_, ?_⟩ <;> first | assumption))
          refine AnyL.take (i := 0) (oi := ⟨some 55, _, _, _, _, _⟩) (v := _) rfl (by kernel_rfl) (by kernel_rfl) (by kernel_rfl) (by kernel_rfl) (fun _ _ _ h => h) (Or.inl ⟨by kernel_rfl, by intro w hSw; (try dsimp only at hSw); go_simp; try with_reducible rfl⟩) (by assumption) ?_
          simp only [Act.put, lyA, lyB, lyC]
          refine AnyL.take (i := 1) (oi := ⟨some 56, _, _, _, _, _⟩) (v := _) rfl (by kernel_rfl) (by kernel_rfl) (by kernel_rfl) (by kernel_rfl) (fun _ _ _ h => h) (Or.inl ⟨by kernel_rfl, by intro w hSw; (try dsimp only at hSw); go_simp; try with_reducible rfl⟩) (by assumption) ?_
          simp only [Act.put, lyA, lyB, lyC]
          refine AnyL.take (i := 2) (oi := ⟨some 57, _, _, _, _, _⟩) (v := _) rfl (by kernel_rfl) (by kernel_rfl) (by kernel_rfl) (by kernel_rfl) (fun _ _ _ h => h) (Or.inl ⟨by kernel_rfl, by intro w hSw; (try dsimp only at hSw); go_simp; try with_reducible rfl⟩) (by assumption) ?_
          simp only [Act.put, lyA, lyB, lyC]
          refine AnyL.take (i := 3) (oi := ⟨some 58, _, _, _, _, _⟩) (v := _) rfl (by kernel_rfl) (by kernel_rfl) (by kernel_rfl) (by kernel_rfl) (fun _ _ _ h => h) (Or.inl ⟨by kernel_rfl, by intro w hSw; (try dsimp only at hSw); go_simp; try with_reducible rfl⟩) (by assumption) ?_
          simp only [Act.put, lyA, lyB, lyC]
          refine AnyL.take (i := 4) (oi := ⟨some 59, _, _, _, _, _⟩) (v := _) rfl (by kernel_rfl) (by kernel_rfl) (by kernel_rfl) (by kernel_rfl) (fun _ _ _ h => h) (Or.inl ⟨by kernel_rfl, by intro w hSw; (try dsimp only at hSw); go_simp; try with_reducible rfl⟩) (by assumption) ?_
          simp only [Act.put, lyA, lyB, lyC]
          refine AnyL.take (i := 5) (oi := ⟨some 60, _, _, _, _, _⟩) (v := _) rfl (by kernel_rfl) (by kernel_rfl) (by kernel_rfl) (by kernel_rfl) (fun _ _ _ h => h) (Or.inl ⟨by kernel_rfl, by intro w hSw; (try dsimp only at hSw); go_simp; try with_reducible rfl⟩) (by assumption) ?_
          simp only [Act.put, lyA, lyB, lyC]
          refine AnyL.take (i := 6) (oi := ⟨some 61, _, _, _, _, _⟩) (v := _) rfl (by kernel_rfl) (by kernel_rfl) (by kernel_rfl) (by kernel_rfl) (fun _ _ _ h => h) (Or.inl ⟨by kernel_rfl, by intro w hSw; (try dsimp only at hSw); go_simp; try with_reducible rfl⟩) (by assumption) ?_
          simp only [Act.put, lyA, lyB, lyC]
          refine AnyL.one (i := 7) (o := ⟨some 62, _, _, _, _, _⟩) (by kernel_rfl) rfl (fun K hK => ?_)
          go_simp
          refine hK.out _ _ ?_ (fun hHeld2 => ?_)
          · (first | (try dsimp only); go_keep | (go_split_ands; refine ⟨?_, ?_, ?_, ?_, ?_, ?_, ?_⟩ <;> first | assumption))
          clear hK K hHeld
          have hHeld := hHeld2
          clear hHeld2
          try simp only [Act.put, lyA, lyB, lyC]
          refine AnyL.one (i := 8) (o := ⟨some 63, _, _, _, _, _⟩) (by kernel_rfl) rfl (fun K hK => ?_)
          refine step_appendX' SlEntry wx.drew rfl (.tmp 56) (.tmp 62) rfl (ge es k) _ _ w1.heap.size lo hi (.slice A1 n1 c1) L1 (by rfl) (by rfl) HO1.out.1 H64.out Hdx.out Hpx.out (by simp; have := HZ.out; omega) (by have := HZ.out; omega) (by rw [← Hn1.out]; omega) ?_
          intro v2 wd ho2 hg2 hb2
          obtain ⟨A2, c2, hv2, _⟩ := ho2.form
          obtain ⟨n2, hn2⟩ : ∃ n2, n2 = (L1 ++ [ge es k]).length := ⟨_, rfl⟩
          rw [← hn2] at hv2
          subst hv2
          clear hn2
          have HO3 := Lib.hid (HO1.out.drew.step (by decide) (by omega) (by omega) ho2 hg2 hb2 (by omega))
          obtain ⟨q2, fq2⟩ := HO1.out.drew.mid (by decide) hg2
          have b4 := hg2.below
          replace c00 := keepC b4 (by first | (simp; done) | (simp; omega)) c00; replace e0 := keepC b4 (by first | (simp; done) | (simp; omega)) e0; replace e1 := keepC b4 (by first | (simp; done) | (simp; omega)) e1; replace e2 := keepC b4 (by first | (simp; done) | (simp; omega)) e2; replace e3 := keepC b4 (by first | (simp; done) | (simp; omega)) e3; replace e4 := keepC b4 (by first | (simp; done) | (simp; omega)) e4
          have Hb4 := Lib.hid (Hbx.out.trans (below_drew b4))
          clear HO1 ho2 hg2 hb2 b4 Hbx Hdx Hpx q1x fq1x
          refine hK.out _ _ ?_ (fun hHeld2 => ?_)
          · (first | (try dsimp only); go_keep | (go_split_ands; refine ⟨?_, ?_, ?_, ?_, ?_, ?_, ?_⟩ <;> first | assumption))
          clear hK K hHeld
          have hHeld := hHeld2
          clear hHeld2
          try simp only [Act.put, lyA, lyB, lyC]
          refine AnyL.take (i := 9) (oi := ⟨some 64, _, _, _, _, _⟩) (v := _) rfl (by kernel_rfl) (by kernel_rfl) (by kernel_rfl) (by kernel_rfl) (fun _ _ _ h => h) (Or.inl ⟨by kernel_rfl, by intro w hSw; (try dsimp only at hSw); go_simp; try with_reducible rfl⟩) (by assumption) ?_
          simp only [Act.put, lyA, lyB, lyC]
          refine AnyL.last (o := ⟨none, _, _, _, _, _⟩) (by kernel_rfl) rfl (by kernel_rfl) (fun K hK => ?_)
          go_simp
          refine hK.out _ _ ?_
          clear hK K hHeld
          go_wp2
          go_roundw
          case rel => exact ⟨k + 1, _, by omega, by go_num, by rw [HA1.out], Hb4.out.setCell (p := ⟨_, _, _⟩) (by show w1.heap.size ≤ w.heap.size + 1 + 1 + 1; have := HZ.out; omega) _, by rw [HA2.out]; exact HO3⟩
          case measure => simp [intOf]; omega
      · have Hno : Hid (dn = true ∨ ¬ lb < (ge es k).lb) := Lib.hid (by
          cases dn
          · exact .inr fun h => hins ⟨rfl, h⟩
          · exact .inl rfl)
        clear hins
        have HA1 := Lib.hid (show anyB lb es (k + 1) = dn by rw [anyB_succ hlt, Hdn.out]; rcases Hno.out with h | h; (rw [h]; rfl); (rw [decide_eq_false h, Bool.or_false]))
        have HA2 := Lib.hid (show adS f es (k + 1) = adS f es k ++ [ge es k] from adS_on hlt (by rw [hf0, Hdn.out]; exact Hno.out))
        obtain ⟨L1, hL1⟩ : ∃ L1, L1 = adS f es k := ⟨_, rfl⟩
        rw [← hL1] at HO HA2 Hnu
        obtain ⟨wx, hwx⟩ : ∃ wx, wx = wr := ⟨_, rfl⟩
        subst hwx
        have HO1 := Lib.hid HO.out
        have Hbx := Lib.hid Hb.out
        have Hdx := Lib.hid Hd.out
        have Hpx := Lib.hid Hp.out
        have q1x := HO1.out.2.1.1
        have fq1x := HO1.out.2.1.2.2.2.2
        have hneb : ¬ b9 = w.heap.size + 1 + 1 + 1 := by omega
        have hneb2 : ¬ w.heap.size + 1 + 1 + 1 = b9 := by omega
        have hBx : w.heap.size + 1 + 1 + 1 + 1 < wx.heap.size := by omega
        have hn1l : nu ≤ 1002 := by omega
        have Hn1 := Lib.hid Hnu.out
        obtain ⟨A1, hA1⟩ : ∃ A1, A1 = Au := ⟨_, rfl⟩
        obtain ⟨n1, hn1⟩ : ∃ n1, n1 = nu := ⟨_, rfl⟩
        obtain ⟨c1, hc1⟩ : ∃ c1, c1 = cu := ⟨_, rfl⟩
        subst hA1 hn1 hc1
        clear HO Hb Hd Hp Ho q0 q1 q2 q3 p0 p1 p2 p3 p4 fq0 hL1 Hnu c01 c02 c03 c10 c11 c12 c13 f10 f11 f12 f13 hBz hzr
        by_cases hdn : dn = true
        · subst hdn
          go_wp2
          refine wp_region_last (S := fun w' => w'.cell? ⟨w.heap.size, 0, none⟩ = some (.slice (some ⟨b9, o, none⟩) es.length c) ∧ w'.cell? ⟨w.heap.size + 1 + 1 + 1, 0, none⟩ = some (.slice A1 n1 c1) ∧ w'.cell? ⟨b9, o + k * 5, none⟩ = some (.int .i64 (ge es k).lb) ∧ w'.cell? ⟨b9, o + k * 5 + 1, none⟩ = some (.int .i64 (ge es k).W) ∧ w'.cell? ⟨b9, o + k * 5 + 2, none⟩ = some (.int .i64 (ge es k).L) ∧ w'.cell? ⟨b9, o + k * 5 + 3, none⟩ = some (.slice Ad (ge es k).ds.length cd) ∧ w'.cell? ⟨b9, o + k * 5 + 4, none⟩ = some (.slice Ap (ge es k).ps.length cp)) 10 (by kernel_rfl) ?_ (fun hHeld => ?_)
          · (first | (try dsimp only); go_keep | (go_split_ands; refine ⟨?_, ?_, ?_, ?_, ?_, ?_, ?_⟩ <;> first | assumption))
          refine AnyL.take (i := 0) (oi := ⟨some 55, _, _, _, _, _⟩) (v := _) rfl (by kernel_rfl) (by kernel_rfl) (by kernel_rfl) (by kernel_rfl) (fun _ _ _ h => h) (Or.inl ⟨by kernel_rfl, by intro w hSw; (try dsimp only at hSw); go_simp; try with_reducible rfl⟩) (by assumption) ?_
          simp only [Act.put, lyA, lyB, lyC]
          refine AnyL.take (i := 1) (oi := ⟨some 56, _, _, _, _, _⟩) (v := _) rfl (by kernel_rfl) (by kernel_rfl) (by kernel_rfl) (by kernel_rfl) (fun _ _ _ h => h) (Or.inl ⟨by kernel_rfl, by intro w hSw; (try dsimp only at hSw); go_simp; try with_reducible rfl⟩) (by assumption) ?_
          simp only [Act.put, lyA, lyB, lyC]
          refine AnyL.take (i := 2) (oi := ⟨some 57, _, _, _, _, _⟩) (v := _) rfl (by kernel_rfl) (by kernel_rfl) (by kernel_rfl) (by kernel_rfl) (fun _ _ _ h => h) (Or.inl ⟨by kernel_rfl, by intro w hSw; (try dsimp only at hSw); go_simp; try with_reducible rfl⟩) (by assumption) ?_
          simp only [Act.put, lyA, lyB, lyC]
          refine AnyL.take (i := 3) (oi := ⟨some 58, _, _, _, _, _⟩) (v := _) rfl (by kernel_rfl) (by kernel_rfl) (by kernel_rfl) (by kernel_rfl) (fun _ _ _ h => h) (Or.inl ⟨by kernel_rfl, by intro w hSw; (try dsimp only at hSw); go_simp; try with_reducible rfl⟩) (by assumption) ?_
          simp only [Act.put, lyA, lyB, lyC]
          refine AnyL.take (i := 4) (oi := ⟨some 59, _, _, _, _, _⟩) (v := _) rfl (by kernel_rfl) (by kernel_rfl) (by kernel_rfl) (by kernel_rfl) (fun _ _ _ h => h) (Or.inl ⟨by kernel_rfl, by intro w hSw; (try dsimp only at hSw); go_simp; try with_reducible rfl⟩) (by assumption) ?_
          simp only [Act.put, lyA, lyB, lyC]
          refine AnyL.take (i := 5) (oi := ⟨some 60, _, _, _, _, _⟩) (v := _) rfl (by kernel_rfl) (by kernel_rfl) (by kernel_rfl) (by kernel_rfl) (fun _ _ _ h => h) (Or.inl ⟨by kernel_rfl, by intro w hSw; (try dsimp only at hSw); go_simp; try with_reducible rfl⟩) (by assumption) ?_
          simp only [Act.put, lyA, lyB, lyC]
          refine AnyL.take (i := 6) (oi := ⟨some 61, _, _, _, _, _⟩) (v := _) rfl (by kernel_rfl) (by kernel_rfl) (by kernel_rfl) (by kernel_rfl) (fun _ _ _ h => h) (Or.inl ⟨by kernel_rfl, by intro w hSw; (try dsimp only at hSw); go_simp; try with_reducible rfl⟩) (by assumption) ?_
          simp only [Act.put, lyA, lyB, lyC]
          refine AnyL.one (i := 7) (o := ⟨some 62, _, _, _, _, _⟩) (by kernel_rfl) rfl (fun K hK => ?_)
          go_simp
          refine hK.out _ _ ?_ (fun hHeld2 => ?_)
          · (first | (try dsimp only); go_keep | (go_split_ands; refine ⟨?_, ?_, ?_, ?_, ?_, ?_, ?_⟩ <;> first | assumption))
          clear hK K hHeld
          have hHeld := hHeld2
          clear hHeld2
          try simp only [Act.put, lyA, lyB, lyC]
          refine AnyL.one (i := 8) (o := ⟨some 63, _, _, _, _, _⟩) (by kernel_rfl) rfl (fun K hK => ?_)
          refine step_appendX' SlEntry wx.drew rfl (.tmp 56) (.tmp 62) rfl (ge es k) _ _ w1.heap.size lo hi (.slice A1 n1 c1) L1 (by rfl) (by rfl) HO1.out.1 H64.out Hdx.out Hpx.out (by simp; have := HZ.out; omega) (by have := HZ.out; omega) (by rw [← Hn1.out]; omega) ?_
          intro v2 wd ho2 hg2 hb2
          obtain ⟨A2, c2, hv2, _⟩ := ho2.form
          obtain ⟨n2, hn2⟩ : ∃ n2, n2 = (L1 ++ [ge es k]).length := ⟨_, rfl⟩
          rw [← hn2] at hv2
          subst hv2
          clear hn2
          have HO3 := Lib.hid (HO1.out.drew.step (by decide) (by omega) (by omega) ho2 hg2 hb2 (by omega))
          obtain ⟨q2, fq2⟩ := HO1.out.drew.mid (by decide) hg2
          have b4 := hg2.below
          replace c00 := keepC b4 (by first | (simp; done) | (simp; omega)) c00; replace e0 := keepC b4 (by first | (simp; done) | (simp; omega)) e0; replace e1 := keepC b4 (by first | (simp; done) | (simp; omega)) e1; replace e2 := keepC b4 (by first | (simp; done) | (simp; omega)) e2; replace e3 := keepC b4 (by first | (simp; done) | (simp; omega)) e3; replace e4 := keepC b4 (by first | (simp; done) | (simp; omega)) e4
          have Hb4 := Lib.hid (Hbx.out.trans (below_drew b4))
          clear HO1 ho2 hg2 hb2 b4 Hbx Hdx Hpx q1x fq1x
          refine hK.out _ _ ?_ (fun hHeld2 => ?_)
          · (first | (try dsimp only); go_keep | (go_split_ands; refine ⟨?_, ?_, ?_, ?_, ?_, ?_, ?_⟩ <;> first | assumption))
          clear hK K hHeld
          have hHeld := hHeld2
          clear hHeld2
          try simp only [Act.put, lyA, lyB, lyC]
          refine AnyL.take (i := 9) (oi := ⟨some 64, _, _, _, _, _⟩) (v := _) rfl (by kernel_rfl) (by kernel_rfl) (by kernel_rfl) (by kernel_rfl) (fun _ _ _ h => h) (Or.inl ⟨by kernel_rfl, by intro w hSw; (try dsimp only at hSw); go_simp; try with_reducible rfl⟩) (by assumption) ?_
          simp only [Act.put, lyA, lyB, lyC]
          refine AnyL.last (o := ⟨none, _, _, _, _, _⟩) (by kernel_rfl) rfl (by kernel_rfl) (fun K hK => ?_)
          go_simp
          refine hK.out _ _ ?_
          clear hK K hHeld
          go_wp2
          go_roundw
          case rel => exact ⟨k + 1, _, by omega, by go_num, by rw [HA1.out], Hb4.out.setCell (p := ⟨_, _, _⟩) (by show w1.heap.size ≤ w.heap.size + 1 + 1 + 1; have := HZ.out; omega) _, by rw [HA2.out]; exact HO3⟩
          case measure => simp [intOf]; omega
        · obtain rfl : dn = false := by cases dn <;> simp_all
          have hge : ¬ lb < (ge es k).lb := by rcases Hno.out with h | h; exact absurd h (by simp); exact h
          clear hdn
          go_wp2
          refine wp_region_last (S := fun w' => w'.cell? ⟨w.heap.size, 0, none⟩ = some (.slice (some ⟨b9, o, none⟩) es.length c) ∧ w'.cell? ⟨w.heap.size + 1 + 1 + 1, 0, none⟩ = some (.slice A1 n1 c1) ∧ w'.cell? ⟨b9, o + k * 5, none⟩ = some (.int .i64 (ge es k).lb) ∧ w'.cell? ⟨b9, o + k * 5 + 1, none⟩ = some (.int .i64 (ge es k).W) ∧ w'.cell? ⟨b9, o + k * 5 + 2, none⟩ = some (.int .i64 (ge es k).L) ∧ w'.cell? ⟨b9, o + k * 5 + 3, none⟩ = some (.slice Ad (ge es k).ds.length cd) ∧ w'.cell? ⟨b9, o + k * 5 + 4, none⟩ = some (.slice Ap (ge es k).ps.length cp)) 10 (by kernel_rfl) ?_ (fun hHeld => ?_)
          · (first | (try dsimp only); go_keep | (go_split_ands; refine ⟨?_, ?_, ?_, ?_, ?_, ?_, ?_⟩ <;> first | assumption))
          refine AnyL.take (i := 0) (oi := ⟨some 55, _, _, _, _, _⟩) (v := _) rfl (by kernel_rfl) (by kernel_rfl) (by kernel_rfl) (by kernel_rfl) (fun _ _ _ h => h) (Or.inl ⟨by kernel_rfl, by intro w hSw; (try dsimp only at hSw); go_simp; try with_reducible rfl⟩) (by assumption) ?_
          simp only [Act.put, lyA, lyB, lyC]
          refine AnyL.take (i := 1) (oi := ⟨some 56, _, _, _, _, _⟩) (v := _) rfl (by kernel_rfl) (by kernel_rfl) (by kernel_rfl) (by kernel_rfl) (fun _ _ _ h => h) (Or.inl ⟨by kernel_rfl, by intro w hSw; (try dsimp only at hSw); go_simp; try with_reducible rfl⟩) (by assumption) ?_
          simp only [Act.put, lyA, lyB, lyC]
          refine AnyL.take (i := 2) (oi := ⟨some 57, _, _, _, _, _⟩) (v := _) rfl (by kernel_rfl) (by kernel_rfl) (by kernel_rfl) (by kernel_rfl) (fun _ _ _ h => h) (Or.inl ⟨by kernel_rfl, by intro w hSw; (try dsimp only at hSw); go_simp; try with_reducible rfl⟩) (by assumption) ?_
          simp only [Act.put, lyA, lyB, lyC]
          refine AnyL.take (i := 3) (oi := ⟨some 58, _, _, _, _, _⟩) (v := _) rfl (by kernel_rfl) (by kernel_rfl) (by kernel_rfl) (by kernel_rfl) (fun _ _ _ h => h) (Or.inl ⟨by kernel_rfl, by intro w hSw; (try dsimp only at hSw); go_simp; try with_reducible rfl⟩) (by assumption) ?_
          simp only [Act.put, lyA, lyB, lyC]
          refine AnyL.take (i := 4) (oi := ⟨some 59, _, _, _, _, _⟩) (v := _) rfl (by kernel_rfl) (by kernel_rfl) (by kernel_rfl) (by kernel_rfl) (fun _ _ _ h => h) (Or.inl ⟨by kernel_rfl, by intro w hSw; (try dsimp only at hSw); go_simp; try with_reducible rfl⟩) (by assumption) ?_
          simp only [Act.put, lyA, lyB, lyC]
          refine AnyL.take (i := 5) (oi := ⟨some 60, _, _, _, _, _⟩) (v := _) rfl (by kernel_rfl) (by kernel_rfl) (by kernel_rfl) (by kernel_rfl) (fun _ _ _ h => h) (Or.inl ⟨by kernel_rfl, by intro w hSw; (try dsimp only at hSw); go_simp; try with_reducible rfl⟩) (by assumption) ?_
          simp only [Act.put, lyA, lyB, lyC]
          refine AnyL.take (i := 6) (oi := ⟨some 61, _, _, _, _, _⟩) (v := _) rfl (by kernel_rfl) (by kernel_rfl) (by kernel_rfl) (by kernel_rfl) (fun _ _ _ h => h) (Or.inl ⟨by kernel_rfl, by intro w hSw; (try dsimp only at hSw); go_simp; try with_reducible rfl⟩) (by assumption) ?_
          simp only [Act.put, lyA, lyB, lyC]
          refine AnyL.one (i := 7) (o := ⟨some 62, _, _, _, _, _⟩) (by kernel_rfl) rfl (fun K hK => ?_)
          go_simp
          refine hK.out _ _ ?_ (fun hHeld2 => ?_)
          · (first | (try dsimp only); go_keep | (go_split_ands; refine ⟨?_, ?_, ?_, ?_, ?_, ?_, ?_⟩ <;> first | assumption))
          clear hK K hHeld
          have hHeld := hHeld2
          clear hHeld2
          try simp only [Act.put, lyA, lyB, lyC]
          refine AnyL.one (i := 8) (o := ⟨some 63, _, _, _, _, _⟩) (by kernel_rfl) rfl (fun K hK => ?_)
          refine step_appendX' SlEntry wx.drew rfl (.tmp 56) (.tmp 62) rfl (ge es k) _ _ w1.heap.size lo hi (.slice A1 n1 c1) L1 (by rfl) (by rfl) HO1.out.1 H64.out Hdx.out Hpx.out (by simp; have := HZ.out; omega) (by have := HZ.out; omega) (by rw [← Hn1.out]; omega) ?_
          intro v2 wd ho2 hg2 hb2
          obtain ⟨A2, c2, hv2, _⟩ := ho2.form
          obtain ⟨n2, hn2⟩ : ∃ n2, n2 = (L1 ++ [ge es k]).length := ⟨_, rfl⟩
          rw [← hn2] at hv2
          subst hv2
          clear hn2
          have HO3 := Lib.hid (HO1.out.drew.step (by decide) (by omega) (by omega) ho2 hg2 hb2 (by omega))
          obtain ⟨q2, fq2⟩ := HO1.out.drew.mid (by decide) hg2
          have b4 := hg2.below
          replace c00 := keepC b4 (by first | (simp; done) | (simp; omega)) c00; replace e0 := keepC b4 (by first | (simp; done) | (simp; omega)) e0; replace e1 := keepC b4 (by first | (simp; done) | (simp; omega)) e1; replace e2 := keepC b4 (by first | (simp; done) | (simp; omega)) e2; replace e3 := keepC b4 (by first | (simp; done) | (simp; omega)) e3; replace e4 := keepC b4 (by first | (simp; done) | (simp; omega)) e4
          have Hb4 := Lib.hid (Hbx.out.trans (below_drew b4))
          clear HO1 ho2 hg2 hb2 b4 Hbx Hdx Hpx q1x fq1x
          refine hK.out _ _ ?_ (fun hHeld2 => ?_)
          · (first | (try dsimp only); go_keep | (go_split_ands; refine ⟨?_, ?_, ?_, ?_, ?_, ?_, ?_⟩ <;> first | assumption))
          clear hK K hHeld
          have hHeld := hHeld2
          clear hHeld2
          try simp only [Act.put, lyA, lyB, lyC]
          refine AnyL.take (i := 9) (oi := ⟨some 64, _, _, _, _, _⟩) (v := _) rfl (by kernel_rfl) (by kernel_rfl) (by kernel_rfl) (by kernel_rfl) (fun _ _ _ h => h) (Or.inl ⟨by kernel_rfl, by intro w hSw; (try dsimp only at hSw); go_simp; try with_reducible rfl⟩) (by assumption) ?_
          simp only [Act.put, lyA, lyB, lyC]
          refine AnyL.last (o := ⟨none, _, _, _, _, _⟩) (by kernel_rfl) rfl (by kernel_rfl) (fun K hK => ?_)
          go_simp
          refine hK.out _ _ ?_
          clear hK K hHeld
          go_wp2
          go_roundw
          case rel => exact ⟨k + 1, _, by omega, by go_num, by rw [HA1.out], Hb4.out.setCell (p := ⟨_, _, _⟩) (by show w1.heap.size ≤ w.heap.size + 1 + 1 + 1; have := HZ.out; omega) _, by rw [HA2.out]; exact HO3⟩
          case measure => simp [intOf]; omega
    · have He := Lib.hid (show k = es.length by omega)
      have Hb := Lib.hid (hb0.trans (bw.mono (by have := HZ.out; omega)))
      have HS := Lib.hid (show (if anyB f.lb es es.length = true then adS f es es.length else adS f es es.length ++ [f]) = insE f es from adS_end)
      rw [hf0] at HS
      obtain ⟨dn, hdn⟩ : ∃ dn, dn = anyB lb es k := ⟨_, rfl⟩
      rw [← hdn]
      have Hdn := Lib.hid (show anyB lb es es.length = dn by rw [← He.out]; exact hdn.symm)
      have Hbw := Lib.hid bw
      clear hdn bw
      cases dn
      · next =>
        go_wp2_with (at_builtin; apply halt2; rotate_left; exact trivial)
        next =>
          have Ho1 : OwnX wr w1.heap.size lo hi 58 (.slice Au nu cu) (adS ⟨lb, W, L, [], []⟩ es k) := by rw [← Hfe.out]; exact ho
          have Hf1 : E64 ⟨lb, W, L, [], []⟩ := by rw [← Hfe.out]; exact Hf.out
          refine wpList_appendX' SlEntry wr rfl (.tmp 68) (.tmp 70) rfl ⟨lb, W, L, [], []⟩ (.slice none 0 0) (.slice none 0 0) w1.heap.size lo hi (.slice Au nu cu) _ rfl rfl Ho1 Hf1 (TS.nil _ _ _ _) (TS.nil _ _ _ _) (by omega) (by have := HZ.out; omega) (by rw [← Hfe.out, ← Hnu.out]; omega) ?_
          clear Ho1 Hf1
          intro v1 w2 ho1 g1 hb1
          rw [← Hfe.out, He.out] at ho1
          have Hs2 := HS.out
          rw [Hdn.out, if_neg (by simp)] at Hs2
          rw [Hs2] at ho1
          obtain ⟨A1, c1, hv1, hcv1, hmv1⟩ := ho1.form
          obtain ⟨n1, hn1⟩ : ∃ n1, n1 = (insE f es).length := ⟨_, rfl⟩
          rw [← hn1] at hv1 hcv1
          subst hv1
          have HO2 := Lib.hid (HO.out.step (by decide) (by omega) (by omega) ho1 g1 hb1 (by omega))
          obtain ⟨⟨_, l0, l1, l2, _⟩, _⟩ := HO2.out.2
          obtain ⟨q0x, fq0x⟩ := HO.out.mid (by decide) g1
          have l1' := q1
          have b2 := g1.below
          replace c10 := keepC b2 (by first | (simp; done) | (simp; omega)) c10; replace c11 := keepC b2 (by first | (simp; done) | (simp; omega)) c11; replace c12 := keepC b2 (by first | (simp; done) | (simp; omega)) c12; replace c13 := keepC b2 (by first | (simp; done) | (simp; omega)) c13
          replace f10 := keepF b2 (by first | (simp; done) | (simp; omega)) f10; replace f11 := keepF b2 (by first | (simp; done) | (simp; omega)) f11; replace f12 := keepF b2 (by first | (simp; done) | (simp; omega)) f12; replace f13 := keepF b2 (by first | (simp; done) | (simp; omega)) f13
          have Hb2 := Lib.hid (Hb.out.trans (b2.mono (by have := HZ.out; omega)))
          clear HO ho1 g1 hb1 b2 Hb ho q0 q1 q2 q3 p0 p1 p2 p3 p4 fq0 Hs2 hn1 l1'
          go_wp2
          refine bodyPost_ret (v := .agg #[.slice A1 n1 c1, .int .i64 a2, .int .i64 b, .int .i64 z]) (by simp [results, Tryz.results118, go_sem, *]) rfl ⟨_, by rw [← Ha2.out], ?_, ?_⟩
          · rw [← Hfe.out]
            have key := HO2.out.1
            exact (OwnX.kept (w' := (((((w2.setCell ⟨w.heap.size + 1 + 1 + 1, 0, none⟩ (.slice A1 n1 c1)).setCell ⟨w.heap.size + 1, 0, none⟩ (.slice A1 n1 c1)).setCell ⟨w.heap.size + 1, 1, none⟩ (.int .i64 a2)).setCell ⟨w.heap.size + 1, 2, none⟩ (.int .i64 b)).setCell ⟨w.heap.size + 1, 3, none⟩ (.int .i64 z))) key (fun g hg _ => by
              have := HZ.out
              simp only [World.setCell, Array.getElem?_modify, if_neg (show ¬ w.heap.size + 1 = g by omega)]) (fun g _ hg => by
              simp only [World.setCell, Array.getElem?_modify, if_neg (show ¬ w.heap.size + 1 = g by omega)])).base (by have := HZ.out; omega)
          · exact ((((Hb2.out.setCell (p := ⟨_, _, _⟩) (by show w.heap.size ≤ w.heap.size + 1 + 1 + 1; omega) _).setCell (p := ⟨_, _, _⟩) (by simp) _).setCell (p := ⟨_, _, _⟩) (by simp) _).setCell (p := ⟨_, _, _⟩) (by simp) _).setCell (p := ⟨_, _, _⟩) (by simp) _
      · have Hs2 := Lib.hid HS.out
        go_wp2
        refine bodyPost_ret (v := .agg #[.slice Au nu cu, .int .i64 a2, .int .i64 b, .int .i64 z]) (by simp [results, Tryz.results118, go_sem, *]) rfl ⟨_, by rw [← Ha2.out], ?_, ?_⟩
        · rw [← Hfe.out]
          have key := (show OwnX wr w1.heap.size lo hi 58 (.slice Au nu cu) (insE f es) by have h9 := Hs2.out; rw [Hdn.out, if_pos rfl] at h9; rw [← h9, ← He.out]; exact ho)
          exact (OwnX.kept (w' := ((((wr.setCell ⟨w.heap.size + 1, 0, none⟩ (.slice Au nu cu)).setCell ⟨w.heap.size + 1, 1, none⟩ (.int .i64 a2)).setCell ⟨w.heap.size + 1, 2, none⟩ (.int .i64 b)).setCell ⟨w.heap.size + 1, 3, none⟩ (.int .i64 z))) key (fun g hg _ => by
            have := HZ.out
            simp only [World.setCell, Array.getElem?_modify, if_neg (show ¬ w.heap.size + 1 = g by omega)]) (fun g _ hg => by
            simp only [World.setCell, Array.getElem?_modify, if_neg (show ¬ w.heap.size + 1 = g by omega)])).base (by have := HZ.out; omega)
        · exact (((Hb.out.setCell (p := ⟨_, _, _⟩) (by simp) _).setCell (p := ⟨_, _, _⟩) (by simp) _).setCell (p := ⟨_, _, _⟩) (by simp) _).setCell (p := ⟨_, _, _⟩) (by simp) _
end Go.Proofs.YtkgepklapglmdaaGreatDoor
