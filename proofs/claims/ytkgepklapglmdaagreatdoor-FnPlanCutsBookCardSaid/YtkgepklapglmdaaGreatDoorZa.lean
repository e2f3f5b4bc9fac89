/-
  Texts merged into one: what each function does, and plain lemmas. No condition.
-/
import Derived.Test.YtkgepklapglmdaaGreatDoorSAB
import Derived.Test.YtkgepklapglmdaaGreatDoorTup
import Derived.Test.YtkgepklapglmdaaGreatDoorWords
import Derived.Test.YtkgepklapglmdaaGreatDoorLAS
import Derived.Test.YtkgepklapglmdaaGreatDoorRegLast
import Derived.Deep.AppendLies
namespace Go.Proofs.YtkgepklapglmdaaGreatDoor
open Go.RowKit
attribute [local go_sem ↓] Go.wp_at_zero Go.wp_at_succ

end Go.Proofs.YtkgepklapglmdaaGreatDoor

namespace Go.Proofs.YtkgepklapglmdaaGreatDoor
open Go.RowKit

/-! pieces of paper: one step after the other, the same steps in the program and in the reference -/
/-- the pieces so far (parent, roll, from, length), the roll, the parent and the place in it, what the roll still wants -/
structure Pst where
  acc : List (List Int)
  i : Nat
  p : Nat
  at_ : Int
  want : Int
/-- one piece -/
def cutP (P : List Int) (s : Pst) : Pst :=
  let n := min s.want (gi P s.p - s.at_)
  if s.at_ + n = gi P s.p then ⟨s.acc ++ [[(s.p : Int), (s.i : Int), s.at_, n]], s.i, s.p + 1, 0, s.want - n⟩
  else ⟨s.acc ++ [[(s.p : Int), (s.i : Int), s.at_, n]], s.i, s.p, s.at_ + n, s.want - n⟩
/-- the paper from a place on -/
def sumFrom (P : List Int) (p : Nat) : Int := (P.drop p).sum
theorem sumFrom_step {P : List Int} {p : Nat} (h : p < P.length) : sumFrom P p = gi P p + sumFrom P (p + 1) := by
  unfold sumFrom
  rw [List.drop_eq_getElem_cons h, List.sum_cons, gi_eq h]
theorem sumFrom_end {P : List Int} {p : Nat} (h : P.length ≤ p) : sumFrom P p = 0 := by
  unfold sumFrom; rw [List.drop_eq_nil_of_le h]; rfl
/-- the state is sound: the place lies on a parent, and the paper that is left is enough -/
def Snd (P W : List Int) (s : Pst) : Prop :=
  s.i ≤ W.length ∧ s.p ≤ P.length ∧ 0 ≤ s.at_ ∧ (s.p < P.length → s.at_ < gi P s.p) ∧ (s.p = P.length → s.at_ = 0) ∧ 0 ≤ s.want ∧ (s.i = W.length → s.want = 0) ∧ s.want + sumFrom W (s.i + 1) ≤ sumFrom P s.p - s.at_
theorem sumFrom_nonneg {P : List Int} (h : ∀ j, j < P.length → 1 ≤ gi P j) (p : Nat) : 0 ≤ sumFrom P p := by
  obtain ⟨d, hd⟩ : ∃ d, d = P.length - p := ⟨_, rfl⟩
  induction d generalizing p with
  | zero => rw [sumFrom_end (by omega)]; omega
  | succ d ih =>
    have := ih (p + 1) (by omega)
    have := h p (by omega)
    rw [sumFrom_step (by omega)]; omega
/-- a piece can be cut as long as something is wanted -/
theorem Snd.more {P W : List Int} {s : Pst} (h : Snd P W s) (hW : ∀ j, j < W.length → 1 ≤ gi W j) (hw : 0 < s.want) : s.p < P.length ∧ s.i < W.length := by
  obtain ⟨h1, h2, h3, h4, h5, h6, h7, h8⟩ := h
  have h9 := sumFrom_nonneg hW (s.i + 1)
  refine ⟨?_, ?_⟩
  · rcases Nat.lt_or_ge s.p P.length with h | h
    · exact h
    · rw [sumFrom_end h] at h8; omega
  · rcases Nat.lt_or_ge s.i W.length with h | h
    · exact h
    · have := h7 (by omega); omega
theorem Snd.cut {P W : List Int} {s : Pst} (h : Snd P W s) (hP : ∀ j, j < P.length → 1 ≤ gi P j) (hW : ∀ j, j < W.length → 1 ≤ gi W j) (hw : 0 < s.want) : Snd P W (cutP P s) ∧ (cutP P s).i = s.i ∧ (cutP P s).want < s.want := by
  obtain ⟨hp, hi⟩ := h.more hW hw
  obtain ⟨h1, h2, h3, h4, h5, h6, h7, h8⟩ := h
  have hat := h4 hp
  have hst := sumFrom_step hp
  unfold cutP
  dsimp only
  split
  · rename_i he
    refine ⟨⟨by dsimp only; omega, by dsimp only; omega, by dsimp only; omega, fun hq => by dsimp only at hq ⊢; have := hP _ hq; omega, fun _ => rfl, by dsimp only; omega, fun hq => by dsimp only at hq; omega, by dsimp only; omega⟩, rfl, by dsimp only; omega⟩
  · rename_i he
    refine ⟨⟨by dsimp only; omega, by dsimp only; omega, by dsimp only; omega, fun _ => by dsimp only; omega, fun hq => by dsimp only at hq; omega, by dsimp only; omega, fun hq => by dsimp only at hq; omega, by dsimp only; omega⟩, rfl, by dsimp only; omega⟩
end Go.Proofs.YtkgepklapglmdaaGreatDoor

namespace Go.Proofs.YtkgepklapglmdaaGreatDoor
open Go.RowKit
attribute [local go_sem ↓] Go.wp_at_zero Go.wp_at_succ

/-- there are no more pieces than parents and rolls that were come to -/
def Few (s : Pst) : Prop := s.acc.length ≤ s.p + s.i + (if s.want = 0 then 1 else 0)
theorem Few.cut {P W : List Int} {s : Pst} (h : Few s) (_hs : Snd P W s) (hw : 0 < s.want) : Few (cutP P s) := by
  unfold Few at h ⊢
  rw [if_neg (by omega)] at h
  unfold cutP
  dsimp only
  split
  · dsimp only; simp only [List.length_append, List.length_singleton]; omega
  · rename_i he
    dsimp only
    simp only [List.length_append, List.length_singleton]
    rw [if_pos (by omega)]; omega
theorem gi_out {W : List Int} {k : Nat} (h : W.length ≤ k) : gi W k = 0 := by simp [gi, h]
theorem sum_next (W : List Int) (k : Nat) : gi W k + sumFrom W (k + 1) = sumFrom W k := by
  rcases Nat.lt_or_ge k W.length with h | h
  · exact (sumFrom_step h).symm
  · rw [gi_out h, sumFrom_end h, sumFrom_end (by omega)]; rfl
def nextP (W : List Int) (s : Pst) : Pst := ⟨s.acc, s.i + 1, s.p, s.at_, gi W (s.i + 1)⟩
theorem Snd.next {P W : List Int} {s : Pst} (h : Snd P W s) (hW : ∀ j, j < W.length → 1 ≤ gi W j) (hi : s.i < W.length) (hw : s.want = 0) : Snd P W (nextP W s) := by
  obtain ⟨h1, h2, h3, h4, h5, h6, h7, h8⟩ := h
  have h9 := sum_next W (s.i + 1)
  refine ⟨hi, h2, h3, h4, h5, ?_, fun hq => gi_out (by unfold nextP at hq; dsimp only at hq; omega), ?_⟩
  · show 0 ≤ gi W (s.i + 1)
    rcases Nat.lt_or_ge (s.i + 1) W.length with h | h
    · have := hW _ h; omega
    · rw [gi_out h]; omega
  · show gi W (s.i + 1) + sumFrom W (s.i + 1 + 1) ≤ sumFrom P s.p - s.at_
    omega
theorem Few.next {W : List Int} {s : Pst} (h : Few s) (hw : s.want = 0) : Few (nextP W s) := by
  unfold Few at h ⊢
  rw [if_pos hw] at h
  show s.acc.length ≤ s.p + (s.i + 1) + _
  omega
/-- the pieces are numbers of 64 bits, four each -/
theorem Snd.start {P W : List Int} (hW : ∀ j, j < W.length → 1 ≤ gi W j) (hP : ∀ j, j < P.length → 1 ≤ gi P j) (h : sumFrom W 0 ≤ sumFrom P 0) : Snd P W ⟨[], 0, 0, 0, gi W 0⟩ := by
  have h9 := sum_next W 0
  refine ⟨Nat.zero_le _, Nat.zero_le _, Int.le_refl _, fun hq => ?_, fun _ => rfl, ?_, fun hq => gi_out (by dsimp only at hq; omega), ?_⟩
  · have := hP 0 hq
    show (0 : Int) < gi P 0
    omega
  · show 0 ≤ gi W 0
    rcases Nat.lt_or_ge 0 W.length with h | h
    · have := hW _ h; omega
    · rw [gi_out h]; omega
  · show gi W 0 + sumFrom W (0 + 1) ≤ sumFrom P 0 - 0
    omega
/-- where the program begins -/
def Pst.start (W : List Int) : Pst := ⟨[], 0, 0, 0, gi W 0⟩
end Go.Proofs.YtkgepklapglmdaaGreatDoor

namespace Go.Proofs.YtkgepklapglmdaaGreatDoor
open Go.RowKit
attribute [local go_sem ↓] Go.wp_at_zero Go.wp_at_succ

end Go.Proofs.YtkgepklapglmdaaGreatDoor

namespace Go.Proofs.YtkgepklapglmdaaGreatDoor
open Go.RowKit
attribute [local go_sem ↓] Go.wp_at_zero Go.wp_at_succ

end Go.Proofs.YtkgepklapglmdaaGreatDoor

namespace Go.Proofs.YtkgepklapglmdaaGreatDoor
open Go.RowKit

/-! orders: the program looks at all of them, one after the other; the reference takes the best of each beginning -/
/-- the indices below n that an order does not have yet -/
def restO (n : Nat) (pre : List Int) : List Int := ((List.range n).map fun (i : Nat) => (i : Int)).filter fun x => !inL pre x
/-- an order that is begun: its indices are below n, no two equal -/
def Begun (n : Nat) (pre : List Int) : Prop := pre.Nodup ∧ ∀ x ∈ pre, 0 ≤ x ∧ x < (n : Int)
theorem restO_mem {n : Nat} {pre : List Int} {x : Int} : x ∈ restO n pre ↔ (0 ≤ x ∧ x < (n : Int)) ∧ inL pre x = false := by
  unfold restO
  simp only [List.mem_filter, List.mem_map, List.mem_range, Bool.not_eq_true']
  constructor
  · rintro ⟨⟨i, hi, rfl⟩, h⟩; exact ⟨⟨by omega, by omega⟩, h⟩
  · rintro ⟨⟨h1, h2⟩, h⟩
    obtain ⟨i, rfl⟩ := Int.eq_ofNat_of_zero_le h1
    exact ⟨⟨i, by omega, rfl⟩, h⟩
theorem inL_mem {xs : List Int} {n : Int} : inL xs n = true ↔ n ∈ xs := by
  unfold inL; simp
theorem Begun.next {n : Nat} {pre : List Int} {x : Int} (h : Begun n pre) (hx : x ∈ restO n pre) : Begun n (pre ++ [x]) := by
  obtain ⟨h1, h2⟩ := restO_mem.1 hx
  have h3 : x ∉ pre := fun hm => by rw [inL_mem.2 hm] at h2; cases h2
  refine ⟨?_, fun y hy => ?_⟩
  · rw [List.nodup_append]
    exact ⟨h.1, by simp, fun a ha b hb e => h3 (by rw [List.mem_singleton] at hb; rw [← hb, ← e]; exact ha)⟩
  · rcases List.mem_append.1 hy with hy | hy
    · exact h.2 y hy
    · rw [List.mem_singleton] at hy; rw [hy]; exact h1
end Go.Proofs.YtkgepklapglmdaaGreatDoor

namespace Go.Proofs.YtkgepklapglmdaaGreatDoor
open Go.RowKit

/-! the number of pieces; orders pick a permutation; all orders are looked at -/
end Go.Proofs.YtkgepklapglmdaaGreatDoor

namespace Go.Proofs.YtkgepklapglmdaaGreatDoor
open Go.RowKit
attribute [local go_sem ↓] Go.wp_at_zero Go.wp_at_succ

theorem OwnI.prefix2 {w : World} {base e n c : Nat} {A : Option Addr} {xs ys : List Int} (h : OwnI w base e (.slice A n c) (xs ++ ys)) : OwnI w base e (.slice A xs.length c) xs := by
  refine ⟨⟨by simp, ?_⟩, fun x hx => h.2 x (List.mem_append.2 (.inl hx))⟩
  rcases h.1.2 with ⟨e1, h0⟩ | ⟨g, cap, cur, e1, hb, hg, hnc, hcm, hcs, ht⟩
  · injection e1 with e2 e3 e4
    subst e2
    rw [List.length_append] at h0
    have : xs = [] := List.eq_nil_of_length_eq_zero (by omega)
    subst this
    exact .inl ⟨by rw [e4]; rfl, rfl⟩
  · injection e1 with e2 e3 e4
    subst e2 e4
    rw [List.length_append] at hnc
    refine .inr ⟨g, c, cur, rfl, hb, hg, by omega, hcm, hcs, ?_⟩
    have := congrArg (List.take xs.length) ht
    rw [List.take_take, List.length_append] at this
    rw [show min xs.length ((xs.length + ys.length) * 1) = xs.length by omega] at this
    rw [Nat.mul_one, this]
    simp
/-- the state of the closure that grows orders: n at h, the orders at h + 1, the order's block h + 2, the order at o, the closure at o + 1 -/
structure GrS (w : World) (tS tI kf h o n : Nat) (pre : List Int) (acc : List (List Int)) : Prop where
  ord : h + 3 ≤ o
  size : o + 2 ≤ w.heap.size
  cN : w.cell? ⟨h, 0, none⟩ = some (.int .i64 n)
  cO : w.cell? ⟨o, 0, none⟩ = some (.slice (some ⟨h + 2, 0, none⟩) pre.length n)
  fO : w.frozen? ⟨o, 0, none⟩ = false
  cG : w.cell? ⟨o + 1, 0, none⟩ = some (.func (.func kf) #[] #[.pointer (some ⟨o, 0, none⟩), .pointer (some ⟨h, 0, none⟩), .pointer (some ⟨h + 1, 0, none⟩), .pointer (some ⟨o + 1, 0, none⟩)])
  own : OwnI w (h + 2) tI (.slice (some ⟨h + 2, 0, none⟩) pre.length n) pre
  fS : w.frozen? ⟨h + 1, 0, none⟩ = false
  rows : ∃ v, w.cell? ⟨h + 1, 0, none⟩ = some v ∧ OwnR w (o + 2) w.heap.size tS tI v acc
/-- only new blocks beyond, and the three that the closure writes -/
theorem GrS.later {w w' : World} {tS tI kf h o n : Nat} {pre : List Int} {acc : List (List Int)} (g : GrS w tS tI kf h o n pre acc) (hb : Below w.heap.size w w') : GrS w' tS tI kf h o n pre acc := by
  obtain ⟨oz, z, n1, o1, o2, g1, w1, s1, v, s2, s3⟩ := g
  exact ⟨oz, by have := hb.size; omega, (hb.cell (by show h < _; omega)).trans n1, (hb.cell (by show o < _; omega)).trans o1, (hb.frozen (by show o < _; omega)).trans o2, (hb.cell (by show o + 1 < _; omega)).trans g1,
    w1.kept (.of_below hb (Nat.le_refl _)), (hb.frozen (by show h + 1 < _; omega)).trans s1, v, (hb.cell (by show h + 1 < _; omega)).trans s2, (s3.kept (.of_below hb (Nat.le_refl _))).wide (Nat.le_refl _) hb.size⟩
end Go.Proofs.YtkgepklapglmdaaGreatDoor
