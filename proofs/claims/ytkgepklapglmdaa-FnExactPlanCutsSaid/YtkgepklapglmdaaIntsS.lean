/-
  Lemmas and contracts of single functions of this program, used by the proofs of its laws: what each call returns and what becomes of memory. Conditions: the hypotheses of each theorem.
-/
import Derived.Test.YtkgepklapglmdaaLeafA
import Derived.Test.YtkgepklapglmdaaOwn
namespace Go.Proofs.Ytkgepklapglmdaa
open Go.RowKit

theorem take_set_succ (xs : List Int) (ys : List Int) (k : Nat) (h : k < xs.length) (hy : k < ys.length) : (xs.take k ++ ys.drop k).set k (gi xs k) = xs.take (k + 1) ++ ys.drop (k + 1) := by
  rw [take_gi h, List.set_append_right _ _ (by rw [List.length_take]; omega), List.length_take, Nat.min_eq_left (by omega), Nat.sub_self, drop_gi hy, List.set_cons_zero, List.append_assoc]; rfl
theorem toIntS_any (lo hi : Nat) (v : Value) (xs : List Int) (w : World) (h : Ints w lo hi v xs) (hhi : hi ≤ w.heap.size) (hl : xs.length ≤ 1099511627776) :
    Calls Try.prog 8 #[v] w fun e w' => ∃ v', e = .returned v' ∧ OwnI w' w.heap.size 3 v' xs ∧ Below w.heap.size w w' := by
  obtain ⟨A, c, rfl, hc, hm⟩ := h.form
  go_enter Try.func8, Try.ntmps8
  go_wp2_with (at_make; refine wpList_makeI SlI _ rfl _ _ rfl w.heap.size xs.length rfl rfl hl (Nat.le_refl _) ?_; intro w1 ho hb1 hs1)
  go_loopw [4] (fun i wr => ∃ k : Nat, k ≤ xs.length ∧ i = .int .i64 k ∧ OwnI wr w.heap.size 3 (.slice (some ⟨w.heap.size, 0, none⟩) xs.length xs.length) (xs.take k ++ (List.replicate xs.length 0).drop k) ∧ Below w.heap.size w wr) (fun i _ => xs.length - (intOf i).toNat)
  case atStart => exact ⟨0, by omega, rfl, by simpa using ho, hb1⟩
  case round =>
    obtain ⟨k, hk, rfl, hown, hb⟩ := hrel
    by_cases hlt : k < xs.length
    · obtain ⟨b, o, rfl, hbl, hbh, hcell, h64⟩ := (h.below hb hhi).cell hlt
      obtain ⟨g, hg, _, _, hc1, hf1, hst⟩ := hown.at_ (i := k) (by simp; omega)
      simp only [Option.some.injEq, Addr.mk.injEq, and_true] at hg
      subst hg
      have Hst := Lib.hid (hst _ h64)
      clear hst
      go_wp2
      go_roundw
      case rel => exact ⟨k + 1, by omega, by go_num, by rw [← take_set_succ xs _ k hlt (by simp; omega)]; exact Hst.out, hb.setCell (Nat.le_refl _) _⟩
      case measure => simp [intOf]; omega
    · have e : k = xs.length := by omega
      have He := Lib.hid e
      clear e
      go_wp2
      go_ret
      exact ⟨_, rfl, by simpa [He.out] using hown, hb⟩

/-- the marks: n, n + 1, .. -/
def upL (n : Nat) : Nat → List Int
  | 0 => []
  | m + 1 => upL n m ++ [((n + m : Nat) : Int)]
theorem upL_len (n : Nat) : ∀ m, (upL n m).length = m
  | 0 => rfl
  | m + 1 => by rw [upL, List.length_append, upL_len n m]; rfl
theorem upL_set (n : Nat) (xs : List Int) (k : Nat) (hy : k < xs.length) : (upL n k ++ xs.drop k).set k ((n + k : Nat) : Int) = upL n (k + 1) ++ xs.drop (k + 1) := by
  rw [upL, List.set_append_right _ _ (by rw [upL_len]; omega), upL_len, Nat.sub_self, drop_gi hy, List.set_cons_zero, List.append_assoc]; rfl
theorem markIntS_any (base s : Nat) (v : Value) (xs : List Int) (n : Nat) (w : World) (h : OwnI w base 3 v xs) (hs : ∀ g, v.ownBlock = some g → g < s) (hl : xs.length ≤ 1048576) (hn : n ≤ 9000000) :
    Calls Try.prog 14 #[v, .int .i64 n] w fun e w' => e = .returned (.int .i64 ((n + xs.length : Nat) : Int)) ∧ OwnI w' base 3 v (upL n xs.length) ∧ Only base s w w' ∧ ∀ k, some k ≠ v.ownBlock → w'.heap[k]? = w.heap[k]? := by
  obtain ⟨A, c, rfl, hc, hm⟩ := h.form
  go_enter Try.func14, Try.ntmps14
  go_wp2
  go_loopw [1, 5] (fun m i wr => ∃ k : Nat, k ≤ xs.length ∧ i = .int .i64 k ∧ m = .int .i64 ((n : Int) + k) ∧ OwnI wr base 3 (.slice A xs.length c) (upL n k ++ xs.drop k) ∧ Only base s w wr ∧ Hid (∀ k, some k ≠ (Value.slice A xs.length c).ownBlock → wr.heap[k]? = w.heap[k]?)) (fun _ i _ => xs.length - (intOf i).toNat)
  case atStart => exact ⟨0, by omega, rfl, by simp, by simpa [upL] using h, Only.refl _ _ _, fun _ _ => rfl⟩
  case round =>
    obtain ⟨k, hk, rfl, rfl, hown, ho, HK⟩ := hrel
    by_cases hlt : k < xs.length
    · obtain ⟨g, rfl, hgl, hgh, hc1, hf1, hst⟩ := hown.at_ (i := k) (by simp [upL_len]; omega)
      have Hst := Lib.hid (hst ((n + k : Nat) : Int) ⟨by omega, by omega⟩)
      have hgs := hs g rfl
      clear hst
      go_wp2
      go_roundw
      case rel =>
        refine ⟨k + 1, by omega, by go_num, by go_num, by rw [← upL_set n xs k hlt]; exact Hst.out, ho.setCell hgl hgs _, fun j hj => ?_⟩
        rw [← HK.out j hj]
        exact Below.heap_setCell _ _ _ _ (fun e => hj (by rw [e]; rfl))
      case measure => simp [intOf]; omega
    · have e : k = xs.length := by omega
      have He := Lib.hid e
      clear e
      go_wp2
      go_ret
      exact ⟨ret_int (by rw [He.out]; omega), by simpa [He.out] using hown, ho, HK.out⟩
end Go.Proofs.Ytkgepklapglmdaa
