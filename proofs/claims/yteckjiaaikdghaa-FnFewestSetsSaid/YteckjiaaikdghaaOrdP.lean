/-
  Lemmas and contracts of single functions of this program, used by the proofs of its laws: what each call returns and what becomes of memory. Conditions: the hypotheses of each theorem.
-/
import Derived.Test.YteckjiaaikdghaaWords
namespace Go.Proofs.Yteckjiaaikdghaa
open Go.RowKit

/-! orders: the program looks at all of them, one after the other; the reference takes the best of each beginning -/
/-- the indices below n that an order does not have yet -/
def restO (n : Nat) (pre : List Int) : List Int := ((List.range n).map fun (i : Nat) => (i : Int)).filter fun x => !inL pre x
/-- all orders of n indices that begin with pre and have d more, in the program's order -/
def allO (n : Nat) : Nat → List Int → List (List Int)
  | 0, pre => [pre]
  | d + 1, pre => (restO n pre).flatMap fun x => allO n d (pre ++ [x])
def stepO (c : List Int → Int) (b o : List Int) : List Int := if b = [] ∨ c o < c b then o else b
/-- the first one with the least cost, behind a best one -/
def firstO (c : List Int → Int) (b : List Int) (l : List (List Int)) : List Int := l.foldl (stepO c) b
/-- the reference -/
def bestO (c : List Int → Int) (n : Nat) : Nat → List Int → List Int
  | 0, pre => pre
  | d + 1, pre => (restO n pre).foldl (fun b x => stepO c b (bestO c n d (pre ++ [x]))) []
theorem firstO_append (c : List Int → Int) (b : List Int) (l m : List (List Int)) : firstO c b (l ++ m) = firstO c (firstO c b l) m := List.foldl_append
/-- a list of orders is worth its first best one -/
theorem firstO_step {c : List Int → Int} : ∀ {l : List (List Int)}, l ≠ [] → (∀ o ∈ l, o ≠ []) → ∀ b, firstO c b l = stepO c b (firstO c [] l) ∧ firstO c [] l ≠ []
  | [], h, _, _ => absurd rfl h
  | [o], _, hn, b => by
    have ho := hn o List.mem_cons_self
    refine ⟨?_, ?_⟩
    · show stepO c b o = stepO c b (stepO c [] o)
      unfold stepO; simp
    · show stepO c [] o ≠ []
      unfold stepO; simpa using ho
  | o :: o2 :: t, _, hn, b => by
    have ho := hn o List.mem_cons_self
    have e0 : stepO c [] o = o := by unfold stepO; simp
    obtain ⟨h1, h2⟩ := firstO_step (c := c) (l := o2 :: t) (by simp) (fun x hx => hn x (List.mem_cons_of_mem _ hx)) (stepO c b o)
    obtain ⟨h3, _⟩ := firstO_step (c := c) (l := o2 :: t) (by simp) (fun x hx => hn x (List.mem_cons_of_mem _ hx)) o
    have e1 : firstO c b (o :: o2 :: t) = firstO c (stepO c b o) (o2 :: t) := rfl
    have e2 : firstO c [] (o :: o2 :: t) = firstO c (stepO c [] o) (o2 :: t) := rfl
    rw [e1, e2, e0, h1, h3]
    obtain ⟨m, hm⟩ : ∃ m, m = firstO c [] (o2 :: t) := ⟨_, rfl⟩
    rw [← hm] at h2 ⊢
    constructor
    · by_cases hb : b = []
      · have e3 : ∀ y, stepO c b y = y := fun y => if_pos (.inl hb)
        rw [e3, e3]
      · by_cases h6 : c m < c o
        · have e3 : stepO c o m = m := if_pos (.inr h6)
          rw [e3]
          by_cases h5 : c o < c b
          · have e4 : stepO c b o = o := if_pos (.inr h5)
            have e5 : stepO c b m = m := if_pos (.inr (by omega))
            rw [e4, e3, e5]
          · have e4 : stepO c b o = b := if_neg fun h => h.elim hb h5
            rw [e4]
        · have e3 : stepO c o m = o := if_neg fun h => h.elim ho h6
          rw [e3]
          by_cases h5 : c o < c b
          · have e4 : stepO c b o = o := if_pos (.inr h5)
            rw [e4, e3]
          · have e4 : stepO c b o = b := if_neg fun h => h.elim hb h5
            have e5 : stepO c b m = b := if_neg fun h => h.elim hb (by omega)
            rw [e4, e5]
    · unfold stepO
      split
      · exact h2
      · exact ho
/-- an order that is begun: its indices are below n, no two equal -/
def Begun (n : Nat) (pre : List Int) : Prop := pre.Nodup ∧ ∀ x ∈ pre, 0 ≤ x ∧ x < (n : Int)
theorem restO_mem {n : Nat} {pre : List Int} {x : Int} : x ∈ restO n pre ↔ (0 ≤ x ∧ x < (n : Int)) ∧ inL pre x = false := by
  unfold restO
  simp only [List.mem_filter, List.mem_map, List.mem_range, Bool.not_eq_true']
  constructor
  · rintro ⟨⟨i, hi, rfl⟩, h⟩; exact ⟨⟨by omega, by omega⟩, h⟩
  · rintro ⟨⟨h1, h2⟩, h⟩
    obtain ⟨i, rfl⟩ := Int.eq_ofNat_of_zero_le h1
    exact ⟨⟨i, by omega, rfl⟩, h⟩
theorem sub_len {α : Type} [DecidableEq α] : ∀ {l m : List α}, l.Nodup → (∀ x ∈ l, x ∈ m) → l.length ≤ m.length
  | [], _, _, _ => Nat.zero_le _
  | x :: t, m, h, hs => by
    have h1 := List.nodup_cons.1 h
    have h2 : ∀ y ∈ t, y ∈ m.erase x := fun y hy => by
      have hne : y ≠ x := fun e => h1.1 (e ▸ hy)
      exact (List.mem_erase_of_ne hne).2 (hs y (List.mem_cons_of_mem _ hy))
    have h3 := sub_len h1.2 h2
    have h4 := List.length_erase_of_mem (hs x List.mem_cons_self)
    have h5 : 0 < m.length := List.length_pos_of_mem (hs x List.mem_cons_self)
    rw [List.length_cons]; omega
theorem inL_mem {xs : List Int} {n : Int} : inL xs n = true ↔ n ∈ xs := by
  unfold inL; simp
theorem Begun.next {n : Nat} {pre : List Int} {x : Int} (h : Begun n pre) (hx : x ∈ restO n pre) : Begun n (pre ++ [x]) := by
  obtain ⟨h1, h2⟩ := restO_mem.1 hx
  have h3 : x ∉ pre := fun hm => by rw [inL_mem.2 hm] at h2; cases h2
  refine ⟨?_, fun y hy => ?_⟩
  · rw [List.nodup_append]
    exact ⟨h.1, by simp, fun a ha b hb e => h3 (by rw [List.mem_singleton] at hb; rw [← hb, ← e]; exact ha)⟩
  · rcases List.mem_append.1 hy with hy | hy
    · exact h.2 y hy
    · rw [List.mem_singleton] at hy; rw [hy]; exact h1
/-- something is left as long as the order is not whole -/
theorem restO_some {n : Nat} {pre : List Int} (hl : pre.length < n) : restO n pre ≠ [] := by
  intro h0
  have h1 : ∀ x ∈ (List.range n).map fun (i : Nat) => (i : Int), x ∈ pre := fun x hx => by
    obtain ⟨i, hi, rfl⟩ := List.mem_map.1 hx
    rw [List.mem_range] at hi
    cases hb : inL pre (i : Int)
    · have h9 : (i : Int) ∈ restO n pre := restO_mem.2 ⟨⟨by omega, by omega⟩, hb⟩
      rw [h0] at h9; cases h9
    · exact inL_mem.1 hb
  have h2 : ((List.range n).map fun (i : Nat) => (i : Int)).Nodup := List.Pairwise.map _ (fun a b hab => by omega) List.nodup_range
  have h3 := sub_len h2 h1
  rw [List.length_map, List.length_range] at h3
  omega
theorem fold_flat (c : List Int → Int) (f : Int → List (List Int)) : ∀ (L : List Int) (b : List Int), firstO c b (L.flatMap f) = L.foldl (fun b x => firstO c b (f x)) b
  | [], _ => rfl
  | x :: t, b => by rw [List.flatMap_cons, firstO_append, fold_flat c f t, List.foldl_cons]
/-- the best of each beginning, taken together, is the first one with the least cost of all orders -/
theorem best_all (c : List Int → Int) {n : Nat} (hn : 0 < n) : ∀ (d : Nat) (pre : List Int), Begun n pre → pre.length + d = n →
    bestO c n d pre = firstO c [] (allO n d pre) ∧ allO n d pre ≠ [] ∧ ∀ o ∈ allO n d pre, o.length = n ∧ Begun n o
  | 0, pre, h, hl => ⟨by show pre = stepO c [] pre; unfold stepO; simp, by simp [allO], fun o ho => by
      have e : o = pre := by simpa [allO] using ho
      rw [e]; exact ⟨by omega, h⟩⟩
  | d + 1, pre, h, hl => by
    have ih : ∀ x ∈ restO n pre, bestO c n d (pre ++ [x]) = firstO c [] (allO n d (pre ++ [x])) ∧ allO n d (pre ++ [x]) ≠ [] ∧ ∀ o ∈ allO n d (pre ++ [x]), o.length = n ∧ Begun n o := fun x hx =>
      best_all c hn d (pre ++ [x]) (h.next hx) (by rw [List.length_append, List.length_singleton]; omega)
    have hne : restO n pre ≠ [] := restO_some (by omega)
    refine ⟨?_, ?_, ?_⟩
    · show (restO n pre).foldl (fun b x => stepO c b (bestO c n d (pre ++ [x]))) [] = firstO c [] ((restO n pre).flatMap fun x => allO n d (pre ++ [x]))
      rw [fold_flat]
      have key : ∀ (L : List Int) (b : List Int), (∀ x ∈ L, x ∈ restO n pre) → L.foldl (fun b x => stepO c b (bestO c n d (pre ++ [x]))) b = L.foldl (fun b x => firstO c b (allO n d (pre ++ [x]))) b := fun L => by
        induction L with
        | nil => intro b _; rfl
        | cons x t iht =>
          intro b hL
          obtain ⟨h1, h2, h3⟩ := ih x (hL x List.mem_cons_self)
          rw [List.foldl_cons, List.foldl_cons, h1, ← (firstO_step h2 (fun o ho e => by have := (h3 o ho).1; rw [e] at this; simp at this; omega) b).1]
          exact iht _ fun y hy => hL y (List.mem_cons_of_mem _ hy)
      exact key _ _ fun x hx => hx
    · obtain ⟨x, hx⟩ := List.exists_mem_of_ne_nil _ hne
      obtain ⟨o, ho⟩ := List.exists_mem_of_ne_nil _ (ih x hx).2.1
      exact List.ne_nil_of_mem (List.mem_flatMap.2 ⟨x, hx, ho⟩)
    · intro o ho
      obtain ⟨x, hx, ho⟩ := List.mem_flatMap.1 ho
      exact (ih x hx).2.2 o ho
end Go.Proofs.Yteckjiaaikdghaa
