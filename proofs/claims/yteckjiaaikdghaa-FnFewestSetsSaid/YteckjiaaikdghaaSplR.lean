/-
  Lemmas and contracts of single functions of this program, used by the proofs of its laws: what each call returns and what becomes of memory. Conditions: the hypotheses of each theorem.
-/
import Derived.Test.YteckjiaaikdghaaOrdQ
namespace Go.Proofs.Yteckjiaaikdghaa
open Go.RowKit
attribute [local go_sem ↓] Go.wp_at_zero Go.wp_at_succ

/-! how many splices the rolls have: a list whose sum is told -/
def SpI (m : Nat) (s lo hi : Int) (ys : List Int) : Prop := ys.length = m ∧ ys.sum = s ∧ ∀ i, i < m → lo ≤ gi ys i ∧ gi ys i ≤ hi
theorem sum_set : ∀ {ys : List Int} {r : Nat}, r < ys.length → ∀ y, (ys.set r y).sum = ys.sum - gi ys r + y
  | [], _, h, _ => absurd h (by simp)
  | x :: t, 0, _, y => by simp only [List.set_cons_zero, List.sum_cons]; have : gi (x :: t) 0 = x := rfl; omega
  | x :: t, r + 1, h, y => by
    have ih := sum_set (ys := t) (r := r) (by simpa using h) y
    have e : gi (x :: t) (r + 1) = gi t r := by simp [gi]
    simp only [List.set_cons_succ, List.sum_cons]; omega
theorem gi_set_eq {ys : List Int} {r : Nat} (h : r < ys.length) (y : Int) : gi (ys.set r y) r = y := by simp [gi, h]
theorem gi_set_ne {ys : List Int} {r i : Nat} (h : r ≠ i) (y : Int) : gi (ys.set r y) i = gi ys i := by simp [gi, List.getD, List.getElem?_set_ne h]
theorem SpI.set {m r : Nat} {s lo hi lo' hi' y s' : Int} {ys : List Int} (h : SpI m s lo hi ys) (hr : r < m) (h1 : lo' ≤ lo) (h2 : hi ≤ hi') (h3 : lo' ≤ y ∧ y ≤ hi') (hs : s' = s - gi ys r + y) : SpI m s' lo' hi' (ys.set r y) := by
  obtain ⟨a, b, c⟩ := h
  refine ⟨by rw [List.length_set]; exact a, by rw [sum_set (by omega), b, hs], fun i hi => ?_⟩
  by_cases e : r = i
  · subst e; rw [gi_set_eq (by omega)]; exact h3
  · rw [gi_set_ne e]; have := c i hi; omega
theorem SpI.zeros (m : Nat) : SpI m 0 0 0 (List.replicate m 0) := by
  refine ⟨by simp, ?_, fun i hi => by simp [gi, hi]⟩
  induction m with
  | zero => rfl
  | succ m ih => rw [List.replicate_succ, List.sum_cons, ih]; rfl
/-- the sum of numbers that are not great -/
theorem sumI_rngS {xs : List Int} {n : Nat} {b : Int} (h : ∀ i, i < n → -b ≤ gi xs i ∧ gi xs i ≤ b) : ∀ {k : Nat}, k ≤ n → -(b * k) ≤ sumI xs k ∧ sumI xs k ≤ b * k
  | 0, _ => by simp [sumI]
  | k + 1, hk => by
    have h1 := sumI_rngS h (k := k) (by omega)
    have h2 := h k (by omega)
    have h3 : b * ((k + 1 : Nat) : Int) = b * (k : Int) + b := by rw [Int.natCast_add, Int.mul_add]; simp
    have h4 : sumI xs (k + 1) = sumI xs k + gi xs k := rfl
    omega
theorem sumOf_anyS (lo hi : Nat) (v : Value) (xs : List Int) (w : World) (h : Ints w lo hi v xs) (hl : xs.length ≤ 1000) (hb : ∀ i, i < xs.length → -1000 ≤ gi xs i ∧ gi xs i ≤ 1000) :
    Calls Try.prog 52 #[v] w fun e w' => e = .returned (.int .i64 (sumI xs xs.length)) ∧ w = w' := by
  obtain ⟨A, c, rfl, hc, hm⟩ := h.form
  have HB := Lib.hid hb
  clear hb
  go_enter Try.func52, Try.ntmps52
  go_wp2
  go_loop [3, 8] (fun s i => ∃ k : Nat, k ≤ xs.length ∧ i = .int .i64 k ∧ s = .int .i64 (sumI xs k)) (fun _ i => xs.length - (intOf i).toNat)
  case atStart => exact ⟨0, by omega, rfl, rfl⟩
  case round =>
    obtain ⟨k, hk, rfl, rfl⟩ := hrel
    by_cases hlt : k < xs.length
    · obtain ⟨b, o, rfl, _, _, hcell, _⟩ := h.cell hlt
      have hs := sumI_rngS HB.out hk
      have hx := HB.out k hlt
      go_wp2
      go_round
      case rel => exact ⟨k + 1, by omega, by go_num, rfl⟩
      case measure => simp [intOf]; omega
    · have He := Lib.hid (show k = xs.length by omega)
      go_wp2
      go_ret
      exact ⟨ret_int (by rw [He.out]), rfl⟩
theorem sTotal_anyS (lo hi : Nat) (v : Value) (xs : List Int) (w : World) (h : Ints w lo hi v xs) (hl : xs.length ≤ 1000) (hb : ∀ i, i < xs.length → -1000 ≤ gi xs i ∧ gi xs i ≤ 1000) :
    Calls Try.prog 79 #[v] w fun e w' => e = .returned (.int .i64 (sumI xs xs.length)) ∧ w = w' := by
  obtain ⟨A, c, rfl, hc, hm⟩ := h.form
  have HB := Lib.hid hb
  clear hb
  go_enter Try.func79, Try.ntmps79
  go_wp2
  go_loop [3, 4] (fun s i => ∃ k : Nat, k ≤ xs.length ∧ i = .int .i64 k ∧ s = .int .i64 (sumI xs k)) (fun _ i => xs.length - (intOf i).toNat)
  case atStart => exact ⟨0, by omega, rfl, rfl⟩
  case round =>
    obtain ⟨k, hk, rfl, rfl⟩ := hrel
    by_cases hlt : k < xs.length
    · obtain ⟨b, o, rfl, _, _, hcell, _⟩ := h.cell hlt
      have hs := sumI_rngS HB.out hk
      have hx := HB.out k hlt
      go_wp2
      go_round
      case rel => exact ⟨k + 1, by omega, by go_num, rfl⟩
      case measure => simp [intOf]; omega
    · have He := Lib.hid (show k = xs.length by omega)
      go_wp2
      go_ret
      exact ⟨ret_int (by rw [He.out]), rfl⟩
theorem lTotal_anyS (lo hi : Nat) (v : Value) (xs : List Int) (w : World) (h : Ints w lo hi v xs) (hl : xs.length ≤ 1000) (hb : ∀ i, i < xs.length → -1000 ≤ gi xs i ∧ gi xs i ≤ 1000) :
    Calls Try.prog 29 #[v] w fun e w' => e = .returned (.int .i64 (sumI xs xs.length)) ∧ w = w' := by
  obtain ⟨A, c, rfl, hc, hm⟩ := h.form
  have HB := Lib.hid hb
  clear hb
  go_enter Try.func29, Try.ntmps29
  go_wp2
  go_loop [3, 4] (fun s i => ∃ k : Nat, k ≤ xs.length ∧ i = .int .i64 k ∧ s = .int .i64 (sumI xs k)) (fun _ i => xs.length - (intOf i).toNat)
  case atStart => exact ⟨0, by omega, rfl, rfl⟩
  case round =>
    obtain ⟨k, hk, rfl, rfl⟩ := hrel
    by_cases hlt : k < xs.length
    · obtain ⟨b, o, rfl, _, _, hcell, _⟩ := h.cell hlt
      have hs := sumI_rngS HB.out hk
      have hx := HB.out k hlt
      go_wp2
      go_round
      case rel => exact ⟨k + 1, by omega, by go_num, rfl⟩
      case measure => simp [intOf]; omega
    · have He := Lib.hid (show k = xs.length by omega)
      go_wp2
      go_ret
      exact ⟨ret_int (by rw [He.out]), rfl⟩
/-- what a call returns that counts splices -/
def SpPost (P W : List Int) (w : World) (e : Ending) (w' : World) : Prop := ∃ (v' : Value) (ys : List Int), e = .returned v' ∧ OwnI w' w.heap.size 3 v' ys ∧ SpI W.length (splT P W) (-200) 200 ys ∧ Below w.heap.size w w'
theorem gr_len4 {P W : List Int} {k j : Nat} (h : j < (runP P W (Pst.start W) k).acc.length) : ∃ r : Nat, gi (gr (runP P W (Pst.start W) k).acc j) 1 = (r : Int) ∧ r < W.length := (run_rolls k _ (gr_mem h)).2
set_option maxRecDepth 100000 in
set_option maxHeartbeats 2000000 in
theorem SplicesOf_any (lo hi l2 h2 : Nat) (v u : Value) (P W : List Int) (w : World) (h : Ints w lo hi v P) (hhi : hi ≤ w.heap.size) (hy : Ints w l2 h2 u W) (hh2 : h2 ≤ w.heap.size) (hen : enL P W 0 = true) :
    Calls Try.prog 30 #[v, u, .int .i64 0] w fun e w' => SpPost P W w e w' := by
  obtain ⟨A, c, rfl, hc, hm⟩ := h.form
  obtain ⟨B, d, rfl, hd, hm2⟩ := hy.form
  have hW60 := (en_sums hen).2.2.2.1
  go_enter Try.func30, Try.ntmps30
  go_wp2_with fail
  refine (longEnough_any lo hi l2 h2 _ _ P W 0 w h hy).mono ?_
  rw [hen]
  rintro e w1 ⟨rfl, rfl⟩
  go_wp2_with (at_make; refine wpList_makeI SlI _ rfl _ _ rfl w.heap.size W.length rfl rfl (by omega) (Nat.le_refl _) ?_; intro w1 ho hb1 hs1)
  have Hb1 := Lib.hid hb1
  have Ho := Lib.hid ho
  clear ho hb1
  go_loopw [8, 21] (fun _ i wr => ∃ (k : Nat) (ys : List Int), k ≤ W.length ∧ i = .int .i64 k ∧ OwnI wr w.heap.size 3 (.slice (some ⟨w.heap.size, 0, none⟩) W.length W.length) ys ∧ Below w.heap.size w wr ∧ Hid (SpI W.length (-k) (-1) 0 ys ∧ ∀ j, k ≤ j → gi ys j = 0)) (fun _ i _ => W.length - (intOf i).toNat)
  case atStart => exact ⟨0, List.replicate W.length 0, Nat.zero_le _, rfl, Ho.out, Hb1.out, by
    have hz := SpI.zeros W.length
    refine ⟨⟨hz.1, hz.2.1, fun i hi => by have := hz.2.2 i hi; omega⟩, fun j _ => by unfold gi; rw [List.getD_eq_getElem?_getD, List.getElem?_replicate]; split <;> rfl⟩⟩
  case round =>
    obtain ⟨k, ys, hk, rfl, hown, hb, HS⟩ := hrel
    clear Ho Hb1
    have hyl := HS.out.1.1
    by_cases hlt : k < W.length
    · obtain ⟨g, hg, _, _, hc1, hf1, hst⟩ := hown.at_ (i := k) (by omega)
      simp only [Option.some.injEq, Addr.mk.injEq, and_true] at hg
      subst hg
      have Hst := Lib.hid (hst (-1) ⟨by omega, by omega⟩)
      have hk0 : (0 : Int) ≤ (k : Int) := by omega
      have hk1 : (k : Int) < (W.length : Int) := by omega
      have Hyl := Lib.hid hyl
      clear hst hyl hown
      go_wp2
      go_roundw
      case rel =>
        refine ⟨k + 1, ys.set k (-1), hlt, by go_num, Hst.out, hb.setCell (Nat.le_refl _) _, HS.out.1.set hlt (by omega) (by omega) ⟨by omega, by omega⟩ ?_, fun j hj => ?_⟩
        · have := HS.out.2 k (Nat.le_refl _)
          omega
        · rw [gi_set_ne (by omega)]; exact HS.out.2 j (by omega)
      case measure => simp [intOf]; omega
    · obtain ⟨wq, rfl⟩ : ∃ wq : World, wq = wr := ⟨_, rfl⟩
      have hke : k = W.length := by omega
      have hni : ¬ (k : Int) < (W.length : Int) := by omega
      have HS2 := Lib.hid (show SpI W.length (-(W.length : Int)) (-1) 0 ys by have := HS.out.1; rw [hke] at this; exact this)
      have hP1 := h.below hb hhi
      have hW1 := hy.below hb hh2
      have Hb := Lib.hid hb
      have Ho := Lib.hid hown
      have hzr := hb.size
      have hwq := (hown.lt w.heap.size rfl).2
      clear hown hb HS
      go_wp2_with fail
      refine (PiecesOf_any lo hi l2 h2 _ _ P W wq hP1 (by omega) hW1 (by omega) hen).mono ?_
      rintro e w2 ⟨v2, q, rfl, ho2, hiq, hb2⟩
      have hfo := ho2.form
      obtain ⟨A2, c2, rfl, hc2, hm2'⟩ := hfo
      have Hq := Lib.hid (show (runP P W (Pst.start W) q).acc.length = nPc P W from run_all hen hiq)
      have hpl := (few_pieces hen q).1
      have HR := Lib.hid (fun j hj => gr_len4 (P := P) (W := W) (k := q) (j := j) hj)
      obtain ⟨acc, hacc⟩ : ∃ acc, acc = (runP P W (Pst.start W) q).acc := ⟨_, rfl⟩
      rw [← hacc] at Hq hpl HR ho2 hc2 ⊢
      have hT := ho2.ts
      have HO2 := Lib.hid (Ho.out.kept (.of_below hb2 (Nat.le_refl _)))
      have Hb2 := Lib.hid (Hb.out.trans (hb2.mono hzr))
      have HT := Lib.hid hT
      have hz2 := hb2.size
      clear hacc hiq hen hb2 ho2 hT Ho Hb hP1 hW1 h hy
      obtain ⟨wo, rfl⟩ : ∃ wo : World, wo = w2 := ⟨_, rfl⟩
      go_wp2
      go_loopw [10, 33] (fun _ i wr => ∃ (m : Nat) (ys : List Int), m ≤ acc.length ∧ i = .int .i64 m ∧ OwnI wr w.heap.size 3 (.slice (some ⟨w.heap.size, 0, none⟩) W.length W.length) ys ∧ Below w.heap.size w wr ∧ Hid (SpI W.length ((m : Int) - W.length) (-1) m ys) ∧ TS wr wq.heap.size wo.heap.size 4 (.slice A2 acc.length c2) acc ∧ wo.heap.size ≤ wr.heap.size) (fun _ i _ => acc.length - (intOf i).toNat)
      case atStart => exact ⟨0, ys, Nat.zero_le _, rfl, HO2.out, Hb2.out, by have := HS2.out; show SpI _ _ _ _ _; simpa using this, HT.out, Nat.le_refl _⟩
      case round =>
        obtain ⟨m, zs, hm, rfl, hown, hb, HS, hTx, hzx⟩ := hrel
        clear HO2 Hb2 HT HS2
        by_cases hlt : m < acc.length
        · obtain ⟨b, o, rfl, hbl, hbh, e0, e1, e2, e3⟩ := hTx.c4 hlt
          obtain ⟨r, hr, hrW⟩ := HR.out m hlt
          rw [hr] at e1
          obtain ⟨p0, hp0⟩ : ∃ p, p = gi (gr acc m) 0 := ⟨_, rfl⟩
          obtain ⟨p2, hp2⟩ : ∃ p, p = gi (gr acc m) 2 := ⟨_, rfl⟩
          obtain ⟨p3, hp3⟩ : ∃ p, p = gi (gr acc m) 3 := ⟨_, rfl⟩
          rw [← hp0] at e0
          rw [← hp2] at e2
          rw [← hp3] at e3
          clear hp0 hp2 hp3 hr
          have hzl := HS.out.1
          have hng := HS.out.2.2 r hrW
          have HA := Lib.hid (show Below wr.heap.size wr (wr.alloc (.cells #[.int .i64 p0, .int .i64 r, .int .i64 p2, .int .i64 p3] 65)) from (Below.refl _ _).alloc (Nat.le_refl _) _)
          obtain ⟨g, hg, _, hgh, hc1, hf1, hst⟩ := (hown.alloc (.cells #[.int .i64 p0, .int .i64 r, .int .i64 p2, .int .i64 p3] 65)).at_ (i := r) (by omega)
          have hgo := (hown.lt w.heap.size rfl).2
          clear hst
          obtain ⟨g', hg', _, _, _, _, hst⟩ := hown.at_ (i := r) (by omega)
          simp only [Option.some.injEq, Addr.mk.injEq, and_true] at hg hg'
          subst hg hg'
          obtain ⟨x, hx⟩ : ∃ x, x = gi zs r := ⟨_, rfl⟩
          rw [← hx] at hc1 hng
          have Hst := Lib.hid (hst (x + 1) ⟨by omega, by omega⟩)
          have hm0 : (0 : Int) ≤ (m : Int) := by omega
          have hm1 : (m : Int) < (acc.length : Int) := by omega
          have hr0 : (0 : Int) ≤ (r : Int) := by omega
          have hr1 : (r : Int) < (W.length : Int) := by omega
          have HN := Lib.hid (show SpI W.length (((m + 1 : Nat) : Int) - W.length) (-1) ((m + 1 : Nat) : Int) (zs.set r (x + 1)) from HS.out.set hrW (by omega) (by omega) ⟨by omega, by omega⟩ (by rw [← hx]; omega))
          have HTx := Lib.hid hTx
          have Hb := Lib.hid hb
          have Hz := Lib.hid hzx
          have Hq9 := Lib.hid hwq
          clear hx hst hTx hb hown HS hzl hwq
          go_wp2
          go_roundw
          case rel => exact ⟨m + 1, zs.set r (x + 1), hlt, by go_num, Hst.out.alloc _, (Hb.out.setCell (Nat.le_refl _) _).alloc (by have := Hb.out.size; simp [World.setCell]; omega) _, HN.out, (HTx.out.kept fun k hk _ => Below.heap_setCell _ _ _ _ (by have := Hq9.out; show k ≠ w.heap.size; omega)).kept fun k _ hk => Below.heap_alloc _ _ _ (by have := Hz.out; simp [World.setCell]; omega), by have := Hz.out; simp [World.setCell]; omega⟩
          case measure => simp [intOf]; omega
        · have hme : m = acc.length := by omega
          have hni : ¬ (m : Int) < (acc.length : Int) := by omega
          have Hb := Lib.hid hb
          have Ho := Lib.hid hown
          have HF := Lib.hid (show SpI W.length (splT P W) (-200) 200 zs by
            have h1 := HS.out
            rw [hme, Hq.out] at h1
            refine ⟨h1.1, h1.2.1, fun i hi => ?_⟩
            have h2 := h1.2.2 i hi
            have h3 := Hq.out
            omega)
          clear hown hb HS
          go_wp2
          go_ret
          exact ⟨_, zs, rfl, Ho.out, HF.out, Hb.out⟩
end Go.Proofs.Yteckjiaaikdghaa
