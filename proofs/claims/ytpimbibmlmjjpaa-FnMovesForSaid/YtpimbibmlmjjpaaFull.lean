/-
  Lemmas and contracts of single functions of this program, used by the proofs of its laws: what each call returns and what becomes of memory. Conditions: the hypotheses of each theorem.
-/
import Derived.Test.YtpimbibmlmjjpaaPileG
namespace Go.Proofs.Ytpimbibmlmjjpaa
open Go.RowKit

/-- full rows: n places, then n - 1, .., labelled from lab + 1 on -/
def fullGo : Nat → Nat → List (List Int)
  | _, 0 => []
  | lab, n + 1 => upL (lab + 1) (n + 1) :: fullGo (lab + (n + 1)) n
def fullL (n : Nat) : List (List Int) := fullGo 0 n
theorem fullGo_len : ∀ (n lab : Nat), (fullGo lab n).length = n
  | 0, _ => rfl
  | n + 1, lab => by rw [fullGo, List.length_cons, fullGo_len n]
theorem fullGo_row : ∀ (n lab r : Nat), r < n → (gr (fullGo lab n) r).length = n - r
  | 0, _, _, h => absurd h (by omega)
  | n + 1, lab, 0, _ => by simp [fullGo, gr, upL_len]
  | n + 1, lab, r + 1, h => by
    have := fullGo_row n (lab + (n + 1)) r (by omega)
    simp only [fullGo, gr, List.getD_cons_succ] at this ⊢
    rw [this]; omega

set_option maxHeartbeats 400000 in
theorem sFullPile_any (n : Int) (w : World) :
    Calls Try.prog 74 #[.int .i64 n] w fun e w' => ∃ v', e = .returned v' ∧ OwnR w' w.heap.size w'.heap.size 26 3 v' (if inR 0 6 n = true then fullL n.toNat else []) ∧ Below w.heap.size w w' := by
  cases hr : inR 0 6 n
  · go_enter Try.func74, Try.ntmps74
    go_wp2_with (go_at_call 47; refine (inRange_any _ _ _ _).mono ?_; rw [hr]; rintro e w' ⟨rfl, rfl⟩)
    go_ret
    exact ⟨_, rfl, OwnR.nil _ _ _ _ _, Below.refl _ _⟩
  · obtain ⟨h0, h6⟩ := inR_true hr
    obtain ⟨m, rfl⟩ := Int.eq_ofNat_of_zero_le h0
    rw [Int.toNat_natCast]
    rw [if_pos rfl]
    have hm6 : m ≤ 6 := by omega
    go_enter Try.func74, Try.ntmps74
    go_wp2_with (go_at_call 47; refine (inRange_any _ _ _ _).mono ?_; rw [hr]; rintro e w' ⟨rfl, rfl⟩)
    clear hr
    go_loopw [3, 4, 5, 6, 7] (fun v l i _ _ wr => ∃ (r lab : Nat) (D : List (List Int)), r ≤ m ∧ i = .int .i64 r ∧ l = .int .i64 lab ∧ lab ≤ 6 * r ∧ D.length ≤ r ∧ OwnR wr w.heap.size wr.heap.size 26 3 v D ∧ Below w.heap.size w wr ∧ Hid (fullL m = D ++ fullGo lab (m - r))) (fun _ _ i _ _ _ => m - (intOf i).toNat)
    case atStart => exact ⟨0, 0, [], by omega, rfl, rfl, by omega, by simp, by simpa using OwnR.empty w w.heap.size 26 3 (Nat.le_refl _), (Below.refl _ _).alloc (Nat.le_refl _) _, rfl⟩
    case round =>
      obtain ⟨r, lab, D, hk, rfl, rfl, hlab, hD, hown, hb, HF⟩ := hrel
      by_cases hlt : r < m
      · go_wp2
        obtain ⟨wo, rfl⟩ : ∃ wo : World, wo = wr := ⟨_, rfl⟩
        have hbs := hb.size
        go_loopw [4, 6, 7] (fun l v i wr => ∃ j : Nat, j ≤ m - r ∧ i = .int .i64 j ∧ l = .int .i64 ((lab + j : Nat) : Int) ∧ OwnI wr wo.heap.size 3 v (upL (lab + 1) j) ∧ Below wo.heap.size wo wr) (fun _ _ i _ => m - r - (intOf i).toNat)
        case atStart => exact ⟨0, by omega, rfl, rfl, OwnI.empty _ _ _ (Nat.le_refl _), (Below.refl _ _).alloc (Nat.le_refl _) _⟩
        case round =>
          obtain ⟨j, hj, rfl, rfl, ho, hb'⟩ := hrel
          have hbs' := hb'.size
          by_cases hjt : j < m - r
          · obtain ⟨q, hq⟩ : ∃ q, q = lab + j := ⟨_, rfl⟩
            have Hq := Lib.hid hq
            have hq1 : q ≤ 100 := by omega
            rw [← hq]
            clear hq
            have hul := upL_len (lab + 1) j
            have hul2 : (upL (lab + 1) j).length ≤ 10 := by omega
            clear hul
            go_wp2_with (at_builtin; refine wpList_appendI SlI _ rfl (.tmp 27) (.tmp 29) rfl _ wo.heap.size _ _ rfl rfl ho ⟨by omega, by omega⟩ (by omega) hbs' ?_; intro v' w1 hown1 hg)
            go_roundw
            case rel =>
              refine ⟨j + 1, by omega, by go_num, by rw [show lab + (j + 1) = q + 1 by rw [Hq.out]; omega]; go_num, ?_, hb'.trans hg.below⟩
              rw [upL, show ((lab + 1 + j : Nat) : Int) = (q : Int) + 1 by rw [Hq.out]; omega]
              exact hown1
            case measure => simp [intOf]; omega
          · have He := Lib.hid (show j = m - r by omega)
            obtain ⟨A1, c1, rfl, _, _⟩ := ho.form
            have hon' := hown.kept (.of_below hb' (Nat.le_refl _))
            go_wp2_with (at_builtin; refine wpList_appendR SlR (by decide) _ rfl (.tmp 31) (.tmp 33) rfl _ _ _ w.heap.size wo.heap.size _ _ (upL (lab + 1) j) rfl rfl hon' ho (by omega) hbs hbs' ?_; intro v2 w2 hown2 hg2)
            go_roundw
            case rel =>
              refine ⟨r + 1, lab + j, D ++ [upL (lab + 1) j], by omega, by go_num, rfl, by omega, by simp; omega, hown2, hb.trans ((hb'.mono hbs).trans hg2.below), ?_⟩
              have := HF.out
              rw [show m - r = (m - (r + 1)) + 1 by omega, fullGo] at this
              rw [He.out, show m - r = (m - (r + 1)) + 1 by omega]
              show fullL m = _
              rw [this, List.append_assoc]; rfl
            case measure => simp [intOf]; omega
      · have He := Lib.hid (show r = m by omega)
        go_wp2
        go_ret
        refine ⟨_, rfl, ?_, hb⟩
        rw [HF.out, He.out, Nat.sub_self, fullGo, List.append_nil]
        exact hown
end Go.Proofs.Ytpimbibmlmjjpaa
