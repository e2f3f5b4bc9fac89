/-
  Lemmas and contracts of single functions of this program, used by the proofs of its laws: what each call returns and what becomes of memory. Conditions: the hypotheses of each theorem.
-/
import Derived.Test.YtpimbibmlmjjpaaLibB
namespace Go.Proofs.Ytpimbibmlmjjpaa
open Go.RowKit

def anyB (f : Nat → Bool) (n : Nat) : Bool := (List.range n).any f
theorem anyB_true {f : Nat → Bool} {n j : Nat} (h : j < n) (hf : f j = true) : anyB f n = true := by
  unfold anyB; rw [List.any_eq_true]; exact ⟨j, by simpa using h, hf⟩
theorem anyB_false {f : Nat → Bool} {n : Nat} (h : ∀ j, j < n → f j = false) : anyB f n = false := by
  unfold anyB; rw [List.any_eq_false]; intro j hj; rw [h j (by simpa using hj)]; simp
theorem anyB_congr {f g : Nat → Bool} {n : Nat} (h : ∀ j, j < n → f j = g j) : anyB f n = anyB g n := by
  unfold anyB
  apply Bool.eq_iff_iff.2
  simp only [List.any_eq_true, List.mem_range]
  exact ⟨fun ⟨j, h1, h2⟩ => ⟨j, h1, by rw [← h j h1]; exact h2⟩, fun ⟨j, h1, h2⟩ => ⟨j, h1, by rw [h j h1]; exact h2⟩⟩
def badS (p : List (List Int)) (L : List Int) (i : Nat) : Bool := decide (gi L i < 1) || decide (plc (labelsL p) (gi L i) < 0) || decide (0 ≤ plc (L.take i) (gi L i))
def badI (p : List (List Int)) (L : List Int) (i : Nat) : Bool := decide (FR p (gi L i) < 0) || inL (L.take i) (gi L i)
def restL (p : List (List Int)) (L : List Int) : List (List Int) := L.foldl (fun q l => if 0 ≤ fndR q l then withoutL q l else q) p
def awayL (p : List (List Int)) (L : List Int) : List Int := L.flatMap fun l => l :: abvL p l
def movS (p : List (List Int)) (L : List Int) : Int := if vPile p = true then (if anyB (badS p L) L.length = true then -1 else ((labelsL p).length : Int) - (labelsL (restL p L)).length) else -1
def movI (p : List (List Int)) (L : List Int) : Int := if vPile p = true then (if anyB (badI p L) L.length = true then -1 else ((Lib.compact (sortL (awayL p L))).length : Int)) else -1
theorem awayL_take {p : List (List Int)} {L : List Int} {k : Nat} (h : k < L.length) : awayL p (L.take (k + 1)) = awayL p (L.take k) ++ [gi L k] ++ abvL p (gi L k) := by
  rw [take_gi h, awayL, List.flatMap_append]
  simp [awayL]
theorem abvL_len (p : List (List Int)) (n : Int) : (abvL p n).length ≤ tot p := by
  unfold abvL
  split
  · obtain ⟨r, i, h1, h2, h3, _⟩ := FR_spec (by assumption)
    rw [h1]
    exact aboveL_len (by simpa using h3)
  · simp
theorem awayL_len (p : List (List Int)) : ∀ L : List Int, (awayL p L).length ≤ L.length * (tot p + 1)
  | [] => by simp [awayL]
  | x :: t => by
    have h1 := awayL_len p t
    have h2 := abvL_len p x
    have : awayL p (x :: t) = x :: (abvL p x ++ awayL p t) := by simp [awayL]
    rw [this, List.length_cons, List.length_append, List.length_cons, Nat.succ_mul]
    omega
theorem tot_le (m : Nat) : ∀ p : List (List Int), (∀ r, r < p.length → (gr p r).length ≤ m) → tot p ≤ m * p.length
  | [], _ => by simp [tot]
  | x :: t, h => by
    have h1 := tot_le m t fun r hr => by simpa [gr] using h (r + 1) (by simpa using hr)
    have h2 : x.length ≤ m := by simpa [gr] using h 0 (by simp)
    have : tot (x :: t) = x.length + tot t := by simp [tot]
    rw [this, List.length_cons, Nat.mul_succ]
    omega
theorem valid_tot {p : List (List Int)} (hv : ValidP p) : tot p ≤ 36 := by
  have h := tot_le 6 p fun r hr => by
    have h1 := (hv.2.2 r hr).1
    rcases hv.2.1 with h2 | h2 <;> omega
  have := hv.1
  omega
theorem restL_shape (p : List (List Int)) : ∀ (L : List Int) (q : List (List Int)), SameShape q p → SameShape (L.foldl (fun q l => if 0 ≤ fndR q l then withoutL q l else q) q) p
  | [], q, h => h
  | x :: t, q, h => by
    refine restL_shape p t _ ?_
    show SameShape (if 0 ≤ fndR q x then withoutL q x else q) p
    split
    · have h1 := withoutL_shape q x
      exact ⟨h1.1.trans h.1, fun r => (h1.2 r).trans (h.2 r)⟩
    · exact h
theorem shape_tot {q p : List (List Int)} (h : SameShape q p) : tot q = tot p := by
  have e : q.map List.length = p.map List.length := by
    apply List.ext_getElem (by simp [h.1])
    intro i h1 h2
    simp only [List.length_map] at h1 h2
    have := h.2 i
    rw [gr_eq h1, gr_eq h2] at this
    simpa using this
  unfold tot
  rw [e]

set_option maxRecDepth 100000 in
set_option maxHeartbeats 1000000 in
theorem MovesFor_any (lo hi lo2 hi2 : Nat) (v u : Value) (p : List (List Int)) (L : List Int) (w : World) (h : IRows w lo hi v p) (hhi : hi ≤ w.heap.size) (ht : tot p ≤ 1048576) (hL : Ints w lo2 hi2 u L) (hhi2 : hi2 ≤ w.heap.size) (hl : L.length ≤ 1048576) :
    Calls Try.prog 41 #[v, u] w fun e w' => e = .returned (.int .i64 (movI p L)) ∧ Below w.heap.size w w' := by
  obtain ⟨A2, c2, rfl, hc2, hm2⟩ := hL.form
  cases hv : vPile p
  · have Hr := Lib.hid (show movI p L = -1 by rw [movI, if_neg (by simp [hv])])
    go_enter Try.func41, Try.ntmps41
    go_wp2_with (go_at_call 35; refine (ValidPile_any _ _ _ _ _ h hhi ht).mono ?_; rw [hv]; rintro e w1 ⟨rfl, hb⟩)
    go_ret
    exact ⟨ret_int Hr.out.symm, hb⟩
  · have ht36 := valid_tot (vPile_true hv)
    have Hr := Lib.hid (show movI p L = if anyB (badI p L) L.length = true then -1 else ((Lib.compact (sortL (awayL p L))).length : Int) by rw [movI, if_pos hv])
    go_enter Try.func41, Try.ntmps41
    go_wp2_with (go_at_call 35; refine (ValidPile_any _ _ _ _ _ h hhi ht).mono ?_; rw [hv]; rintro e w1 ⟨rfl, hb1⟩; have hbs1 := hb1.size)
    have Hv := Lib.hid hv
    clear hv
    go_loopw [5, 15, 6, 7, 8, 9] (fun v i _ _ _ _ wr => ∃ k : Nat, k ≤ L.length ∧ i = .int .i64 k ∧ OwnI wr w.heap.size 3 v (awayL p (L.take k)) ∧ Below w.heap.size w wr ∧ Hid (∀ j, j < k → badI p L j = false)) (fun _ i _ _ _ _ _ => L.length - (intOf i).toNat)
    case atStart => exact ⟨0, by omega, rfl, OwnI.nil _ _ _, hb1, fun j hj => absurd hj (by omega)⟩
    case round =>
      obtain ⟨k, hk, rfl, hown, hb, HB⟩ := hrel
      have hbs := hb.size
      have hLr := hL.below hb hhi2
      have hpr := h.below hb hhi
      by_cases hlt : k < L.length
      · obtain ⟨b, o, rfl, hbl, hbh, hcell, h64⟩ := hLr.cell hlt
        have hLt := hLr.take (i := k) (by omega)
        by_cases hF : FR p (gi L k) < 0
        · have Hbad := Lib.hid (show badI p L k = true by simp [badI, hF])
          go_wp2_with (go_at_call 18; refine (FindRoll_any _ _ _ _ _ _ hpr (by omega) ht).mono ?_; rintro e w2 ⟨rfl, hb2⟩)
          go_ret
          exact ⟨ret_int (by rw [Hr.out, if_pos (anyB_true hlt Hbad.out)]), hb.trans (hb2.mono hbs)⟩
        · cases hin : inL (L.take k) (gi L k)
          · have Hbad := Lib.hid (show badI p L k = false by simp [badI, hF, hin])
            have Hin := Lib.hid hin
            have Hlen := Lib.hid (awayL_take (p := p) hlt)
            have hlen := awayL_len p (L.take k)
            rw [List.length_take, Nat.min_eq_left (by omega)] at hlen
            have hlen2 : (awayL p (L.take k)).length ≤ 1048576 * 37 := Nat.le_trans hlen (Nat.mul_le_mul (by omega) (by omega))
            have hlen3 := abvL_len p (gi L k)
            clear hlen
            go_wp2_with (first | (go_at_call 18; refine (FindRoll_any _ _ _ _ _ _ hpr (by omega) ht).mono ?_; rintro e w2 ⟨rfl, hb2⟩; have hbs2 := hb2.size; have hb02 := hb.trans (hb2.mono hbs)) | (go_at_call 56; refine (contains_any _ _ _ _ _ _ (hLt.below hb2 (by omega))).mono ?_; rw [Hin.out]; rintro e w' ⟨rfl, rfl⟩) | (at_builtin; refine wpList_appendI SlI _ rfl (.tmp 35) (.tmp 37) rfl _ w.heap.size _ _ rfl rfl (hown.kept (.of_below hb2 (Nat.le_refl _))) h64 (by omega) hb02.size ?_; intro v3 w3 hown3 hg3; have hbs3 := hg3.size; have hb03 := hb02.trans hg3.below) | (go_at_call 15; refine (AboveOf_any _ _ _ _ _ _ (h.below hb03 hhi) (by omega) ht).mono ?_; rintro e w4 ⟨v4, rfl, ho4, hb4⟩; have hbs4 := hb4.size; have hb04 := hb03.trans (hb4.mono (by omega))) | (at_builtin; refine wpList_appendIs SlI _ rfl (.tmp 39) (.tmp 42) rfl _ _ _ w.heap.size _ _ _ rfl rfl (hown3.kept (.of_below hb4 (Nat.le_refl _))) ho4.ints (by rw [List.length_append]; simp; omega) (by omega) ?_; intro v5 w5 hown5 hg5))
            go_roundw
            case rel =>
              refine ⟨k + 1, by omega, by go_num, by rw [Hlen.out]; exact hown5, hb04.trans hg5.below, fun j hj => ?_⟩
              rcases Nat.lt_or_ge j k with h1 | h1
              · exact HB.out j h1
              · have : j = k := by omega
                subst this; exact Hbad.out
            case measure => simp [intOf]; omega
          · have Hbad := Lib.hid (show badI p L k = true by simp [badI, hin])
            have Hin := Lib.hid hin
            clear hin
            go_wp2_with (first | (go_at_call 18; refine (FindRoll_any _ _ _ _ _ _ hpr (by omega) ht).mono ?_; rintro e w2 ⟨rfl, hb2⟩; have hbs2 := hb2.size; have hb02 := hb.trans (hb2.mono hbs)) | (go_at_call 56; refine (contains_any _ _ _ _ _ _ (hLt.below hb2 (by omega))).mono ?_; rw [Hin.out]; rintro e w' ⟨rfl, rfl⟩))
            go_ret
            exact ⟨ret_int (by rw [Hr.out, if_pos (anyB_true hlt Hbad.out)]), hb02⟩
      · have e : k = L.length := by omega
        have Hno := Lib.hid (anyB_false HB.out)
        have hlen := awayL_len p L
        have hlen2 : (awayL p L).length ≤ 1048576 * 37 := Nat.le_trans hlen (Nat.mul_le_mul (by omega) (by omega))
        rw [e, List.take_length] at hown
        rw [e] at Hno
        clear hlen HB e
        obtain ⟨X, hX⟩ : ∃ X, X = awayL p L := ⟨_, rfl⟩
        rw [← hX] at hown hlen2
        have HX := Lib.hid hX
        clear hX
        go_wp2_with (first | (go_at_call 66; refine (sort_any _ _ _ _ _ hown (by omega) hbs).mono ?_; rintro e w2 ⟨rfl, hown2, hb2⟩; have hbs2 := hb2.size; have hb02 := hb.trans hb2) | (go_at_call 67; refine (compact_any _ _ _ _ _ hown2 (by omega)).mono ?_; rintro e w3 ⟨A3, c3, rfl, hb3⟩))
        go_ret
        exact ⟨ret_int (by rw [Hr.out, if_neg (by rw [Hno.out]; simp), HX.out]), hb02.trans hb3⟩
end Go.Proofs.Ytpimbibmlmjjpaa
