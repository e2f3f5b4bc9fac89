/-
  Lemmas and contracts of single functions of this program, used by the proofs of its laws: what each call returns and what becomes of memory. Conditions: the hypotheses of each theorem.
-/
import Derived.Test.YteckjiaaikdghaaIntsS
namespace Go.Proofs.Yteckjiaaikdghaa
open Go.RowKit

def heldLL : List (List Int) → Int → Int
  | [], k => k
  | x :: t, k => if heldL x k < 0 then -1 else heldLL t (heldL x k)
theorem heldLL_cons (x : List Int) (t : List (List Int)) (k : Int) : heldLL (x :: t) k = if heldL x k < 0 then -1 else heldLL t (heldL x k) := rfl
theorem heldL_le : ∀ (xs : List Int) (k : Int), heldL xs k ≤ k + xs.length ∨ heldL xs k = -1
  | [], k => by simp [heldL]
  | x :: t, k => by
    rw [heldL_cons]
    by_cases h : x = k
    · rw [if_pos h]; have := heldL_le t (k + 1); simp only [List.length_cons]; omega
    · rw [if_neg h]; exact .inr rfl
theorem heldIntSS_any (lo hi : Nat) (v : Value) (xs : List (List Int)) (n : Nat) (w : World) (h : IRows w lo hi v xs) (hl : tot xs ≤ 1048576) (h1 : n ≤ 1048576) :
    Calls Try.prog 26 #[v, .int .i64 n] w fun e w' => e = .returned (.int .i64 (heldLL xs n)) ∧ w = w' := by
  obtain ⟨A, c, vs, rfl, hc, hm, hr, hrow⟩ := h
  unfold maxLen at hm
  go_enter Try.func26, Try.ntmps26
  go_wp2
  go_loop [1, 5] (fun m i => ∃ (k : Nat) (z : Int), k ≤ xs.length ∧ i = .int .i64 k ∧ m = .int .i64 z ∧ 0 ≤ z ∧ z ≤ (n : Int) + tot (xs.take k) ∧ heldLL xs n = heldLL (xs.drop k) z) (fun _ i => xs.length - (intOf i).toNat)
  case atStart => exact ⟨0, n, by omega, rfl, rfl, by omega, by simp [tot], by simp⟩
  case round =>
    obtain ⟨k, z, hk, rfl, rfl, hz0, hz1, hno⟩ := hrel
    by_cases hlt : k < xs.length
    · have Hno := Lib.hid (hno.trans (by rw [drop_gr hlt, heldLL_cons]))
      clear hno
      obtain ⟨b, o, rfl, _, _, hcell⟩ := IRows.at_ hr hlt
      have hi1 := hrow k hlt
      have ht := tot_take hlt
      have Ht := Lib.hid (tot_succ hlt)
      have hle := heldL_le (gr xs k) z
      go_wp2_with (go_at_call 17; refine (heldIntS_any _ _ _ _ _ _ hi1 (by omega) hz0 (by omega)).mono ?_; rintro e w' ⟨rfl, rfl⟩)
      · go_ret
        exact ⟨ret_int (by rw [Hno.out, if_pos (by omega)]), rfl⟩
      · go_round
        case rel => exact ⟨k + 1, heldL (gr xs k) z, by omega, by go_num, rfl, by omega, by rw [Ht.out]; omega, by rw [Hno.out, if_neg (by omega)]⟩
        case measure => simp [intOf]; omega
    · have Hno := Lib.hid (hno.trans (by rw [drop_end (by omega), heldLL]))
      clear hno
      go_wp2
      go_ret
      exact ⟨ret_int Hno.out.symm, rfl⟩
theorem take_set_succR (xs : List (List Int)) (ys : List (List Int)) (k : Nat) (h : k < xs.length) (hy : k < ys.length) : (xs.take k ++ ys.drop k).set k (gr xs k) = xs.take (k + 1) ++ ys.drop (k + 1) := by
  rw [take_gr h, List.set_append_right _ _ (by rw [List.length_take]; omega), List.length_take, Nat.min_eq_left (by omega), Nat.sub_self, drop_gr hy, List.set_cons_zero, List.append_assoc]; rfl

set_option maxHeartbeats 400000 in
theorem toIntSS_any (lo hi : Nat) (v : Value) (p : List (List Int)) (w : World) (h : IRows w lo hi v p) (hhi : hi ≤ w.heap.size) (ht : tot p ≤ 1048576) (hpl : p.length ≤ 1048576) :
    Calls Try.prog 20 #[v] w fun e w' => ∃ v', e = .returned v' ∧ OwnR w' w.heap.size w'.heap.size 22 3 v' p ∧ Below w.heap.size w w' := by
  obtain ⟨A, c, rfl, hc, hm⟩ := h.form
  go_enter Try.func20, Try.ntmps20
  go_wp2_with (at_make; refine wpList_makeR (tI := 3) SlR _ rfl _ _ rfl w.heap.size p.length rfl rfl (by omega) (Nat.le_refl _) ?_; intro w1 ho hb1 hs1)
  go_loopw [4] (fun i wr => ∃ k : Nat, k ≤ p.length ∧ i = .int .i64 k ∧ OwnR wr w.heap.size wr.heap.size 22 3 (.slice (some ⟨w.heap.size, 0, none⟩) p.length p.length) (p.take k ++ (List.replicate p.length []).drop k) ∧ Below w.heap.size w wr ∧ w.heap.size < wr.heap.size) (fun i _ => p.length - (intOf i).toNat)
  case atStart => exact ⟨0, by omega, rfl, by simpa using ho, hb1, hs1⟩
  case round =>
    obtain ⟨k, hk, rfl, hown, hb, hs⟩ := hrel
    by_cases hlt : k < p.length
    · obtain ⟨b, o, Ai, ci, rfl, hb2, hb3, hcell, hci, hmi, hi1⟩ := (h.below hb hhi).row hlt
      have hlen := tot_take hlt
      have hbs := hb.size
      go_wp2_with (go_at_call 13; refine (toIntS_any _ _ _ _ _ hi1 (by omega) (by omega)).mono ?_; rintro e w1 ⟨v', rfl, ho1, hb1'⟩; obtain ⟨A1, c1, rfl, _, _⟩ := ho1.form; have hbs1 := hb1'.size; obtain ⟨g, hg, hgl, hgh, ⟨x, hc1⟩, hf1, hst⟩ := (hown.kept (.of_below hb1' (Nat.le_refl _))).putRow (k := k) (s' := w1.heap.size) (by decide) ho1 hbs hbs1 (Nat.le_refl _) (by simp; omega); simp only [Option.some.injEq, Addr.mk.injEq, and_true] at hg; subst hg; have Hst := Lib.hid hst; clear hst)
      go_roundw
      case rel =>
        refine ⟨k + 1, by omega, by go_num, ?_, (hb.trans (hb1'.mono hbs)).setCell (Nat.le_refl _) _, by simp [World.setCell]; omega⟩
        rw [← take_set_succR p _ k hlt (by simp; omega)]
        exact Hst.out.wide (Nat.le_refl _) (by simp [World.setCell])
      case measure => simp [intOf]; omega
    · have e : k = p.length := by omega
      have He := Lib.hid e
      clear e
      go_wp2
      go_ret
      exact ⟨_, rfl, by simpa [He.out] using hown, hb⟩
def upLL : Nat → List (List Int) → List (List Int)
  | _, [] => []
  | n, x :: t => upL n x.length :: upLL (n + x.length) t
theorem heldLL_upLL : ∀ (xss : List (List Int)) (n : Nat), heldLL (upLL n xss) n = ((n + tot xss : Nat) : Int)
  | [], n => by simp [upLL, heldLL, tot]
  | x :: t, n => by
    have e : heldL (upL n x.length) n = ((n + x.length : Nat) : Int) := by
      have := heldL_upL n x.length []
      rw [List.append_nil, heldL] at this
      exact this
    rw [upLL, heldLL_cons, e, if_neg (by omega), heldLL_upLL t]
    simp [tot]; omega
theorem upLL_snoc (x : List Int) : ∀ (xss : List (List Int)) (n : Nat), upLL n (xss ++ [x]) = upLL n xss ++ [upL (n + tot xss) x.length]
  | [], n => by simp [upLL, tot]
  | y :: t, n => by rw [List.cons_append, upLL, upLL_snoc x t, upLL]; simp [tot, Nat.add_assoc]
theorem upLL_len : ∀ (xss : List (List Int)) (n : Nat), (upLL n xss).length = xss.length
  | [], _ => rfl
  | x :: t, n => by simp [upLL, upLL_len t]
theorem upLL_tot : ∀ (xss : List (List Int)) (n : Nat), tot (upLL n xss) = tot xss
  | [], _ => rfl
  | x :: t, n => by have := upLL_tot t (n + x.length); simp [tot] at this; simp [upLL, tot, upL_len, this]

set_option maxHeartbeats 400000 in
theorem markIntSS_any (base s : Nat) (v : Value) (p : List (List Int)) (n : Nat) (w : World) (h : OwnR w base s 22 3 v p) (hl : tot p ≤ 1048576) (hn : n ≤ 1) :
    Calls Try.prog 23 #[v, .int .i64 n] w fun e w' => e = .returned (.int .i64 ((n + tot p : Nat) : Int)) ∧ OwnR w' base s 22 3 v (upLL n p) ∧ Only base s w w' := by
  obtain ⟨A, c, rfl, hc, hm⟩ := h.form
  go_enter Try.func23, Try.ntmps23
  go_wp2
  go_loopw [1, 5] (fun m i wr => ∃ k : Nat, k ≤ p.length ∧ i = .int .i64 k ∧ m = .int .i64 ((n + tot (p.take k) : Nat) : Int) ∧ OwnR wr base s 22 3 (.slice A p.length c) (upLL n (p.take k) ++ p.drop k) ∧ Only base s w wr) (fun _ i _ => p.length - (intOf i).toNat)
  case atStart => exact ⟨0, by omega, rfl, by simp [tot], by simpa [upLL] using h, Only.refl _ _ _⟩
  case round =>
    obtain ⟨k, hk, rfl, rfl, hown, ho⟩ := hrel
    by_cases hlt : k < p.length
    · have hrow : gr (upLL n (p.take k) ++ p.drop k) k = gr p k := by
        unfold gr
        rw [List.getD_eq_getElem?_getD, List.getElem?_append_right (by rw [upLL_len, List.length_take]; omega), upLL_len, List.length_take, Nat.min_eq_left (by omega), Nat.sub_self, List.getElem?_drop]
        simp
      obtain ⟨g, Ai, ci, rfl, hgl, hgh, hcell, hci, hmi, hoi, hbs, hst⟩ := hown.rowAt (r := k) (by decide) (by rw [List.length_append, upLL_len, List.length_take, List.length_drop]; omega)
      rw [hrow] at hcell hci hoi hbs
      have Hst := Lib.hid hst
      have Hrow := Lib.hid hrow
      have hlen := tot_take hlt
      have Ht := Lib.hid (tot_succ hlt)
      clear hst hrow
      obtain ⟨m, hm'⟩ : ∃ m, m = n + tot (p.take k) := ⟨_, rfl⟩
      rw [← hm']
      have Hm := Lib.hid hm'
      have hm1 : m ≤ 1048577 := by omega
      clear hm'
      go_wp2_with (go_at_call 16; refine (markIntS_any _ s _ _ _ _ hoi hbs (by omega) (by omega)).mono ?_; rintro e w1 ⟨rfl, ho1, hon, hother⟩)
      go_roundw
      case rel =>
        refine ⟨k + 1, by omega, by go_num, by rw [Ht.out]; have := Hm.out; go_num, ?_, ho.trans hon⟩
        have h2 := Hst.out w1 (upL m (gr p k).length)
        rw [Hrow.out] at h2
        have h3 := h2 ho1 hother
        have e : (upLL n (p.take k) ++ p.drop k).set k (upL m (gr p k).length) = upLL n (p.take (k + 1)) ++ p.drop (k + 1) := by
          rw [List.set_append_right _ _ (by rw [upLL_len, List.length_take]; omega), upLL_len, List.length_take, Nat.min_eq_left (by omega), Nat.sub_self, drop_gr hlt, List.set_cons_zero, take_gr hlt, upLL_snoc, Hm.out, List.append_assoc]; rfl
        rw [← e]; exact h3
      case measure => simp [intOf]; omega
    · have He := Lib.hid (show k = p.length by omega)
      go_wp2
      go_ret
      exact ⟨ret_int (by rw [He.out, List.take_length]), by simpa [He.out] using hown, ho⟩
end Go.Proofs.Yteckjiaaikdghaa
