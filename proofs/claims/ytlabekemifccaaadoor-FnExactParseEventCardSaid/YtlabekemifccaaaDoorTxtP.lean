/-
  Lemmas and contracts of single functions of this program, used by the proofs of its laws: what each call returns and what becomes of memory. Conditions: the hypotheses of each theorem.
-/
import Derived.Test.YtlabekemifccaaaDoorTxtC
import Derived.Lib.SplitLaws
import Derived.Lib.ItoaNum
namespace Go.Proofs.YtlabekemifccaaaDoor
open Go.RowKit

/-! pieces of a text -/
/-- the pieces between the bytes c; cur: what has been read of the piece -/
def splitC (c : UInt8) (cur : List UInt8) : List UInt8 → List (List UInt8)
  | [] => [cur]
  | b :: t => if b = c then cur :: splitC c [] t else splitC c (cur ++ [b]) t
theorem splitC_ix (c : UInt8) : ∀ (l cur : List UInt8), (Lib.index l [c] = -1 ∧ splitC c cur l = [cur ++ l]) ∨ ∃ i : Nat, Lib.index l [c] = i ∧ splitC c cur l = (cur ++ l.take i) :: splitC c [] (l.drop (i + 1))
  | [], cur => by left; exact ⟨by simp [Lib.index], by simp [splitC]⟩
  | b :: t, cur => by
    by_cases h : b = c
    · subst h
      right
      exact ⟨0, by simp [Lib.index, List.isPrefixOf], by simp [splitC]⟩
    · have hp : ([c] : List UInt8).isPrefixOf (b :: t) = false := by simp [List.isPrefixOf, Ne.symm h]
      have hix : Lib.index (b :: t) [c] = if Lib.index t [c] == -1 then -1 else Lib.index t [c] + 1 := by rw [Lib.index, hp]; simp
      have hs : splitC c cur (b :: t) = splitC c (cur ++ [b]) t := by rw [splitC, if_neg h]
      rcases splitC_ix c t (cur ++ [b]) with ⟨h1, h2⟩ | ⟨i, h1, h2⟩
      · left; exact ⟨by rw [hix, h1]; rfl, by rw [hs, h2]; simp⟩
      · right
        refine ⟨i + 1, ?_, by rw [hs, h2]; simp⟩
        have : ¬ ((i : Int) == -1) = true := fun e => by have := beq_iff_eq.1 e; omega
        rw [hix, h1, if_neg this]; omega
theorem splitC_split (c : UInt8) : ∀ (n : Nat) (l : List UInt8), l.length ≤ n → Lib.splitK [c] 0 (Lib.count l [c]) l = splitC c [] l := by
  intro n
  induction n with
  | zero =>
    intro l h
    obtain rfl := List.eq_nil_of_length_eq_zero (by omega : l.length = 0)
    rw [Lib.count_miss (by simp [Lib.index])]; rfl
  | succ n ih =>
    intro l h
    rcases splitC_ix c l [] with ⟨h1, h2⟩ | ⟨i, h1, h2⟩
    · rw [Lib.count_miss h1, h2]; rfl
    · have hlt : i < l.length := by
        by_cases hi : i < l.length
        · exact hi
        · have hc := Lib.count_hit (sub := [c]) (by simp) h1
          exfalso
          have key : ∀ (l : List UInt8), Lib.index l [c] < l.length ∨ l = [] := by
            intro l
            induction l with
            | nil => exact .inr rfl
            | cons b t ih2 =>
              left
              rw [Lib.index]
              split
              · simp only [List.length_cons]; omega
              · split
                · simp only [List.length_cons]; omega
                · rcases ih2 with h | h
                  · simp only [List.length_cons]; omega
                  · subst h
                    rename_i h9
                    exact absurd (by simp [Lib.index]) h9
          rcases key l with h | h
          · omega
          · subst h; simp [Lib.index] at h1
      rw [Lib.count_hit (sub := [c]) (by simp) h1, Nat.add_comm, Lib.splitK, h1]
      have : ¬ ((i : Int) == -1) = true := fun e => by have := beq_iff_eq.1 e; omega
      rw [if_neg this, h2]
      have e1 : (i : Int).toNat = i := by omega
      simp only [e1, Nat.add_zero, List.nil_append, List.length_singleton]
      rw [ih (l.drop (i + 1)) (by rw [List.length_drop]; omega)]
theorem splitB_C (c : UInt8) (l : List UInt8) : (Lib.splitB (TB [c]) 0 (Lib.countB (TB l) (TB [c])) (TB l)).map Value.string = (splitC c [] l).map fun x => Value.string (TB x) := by
  have h := Lib.splitB_data (TB [c]) 0 (Lib.countB (TB l) (TB [c])) (TB l)
  have e : Lib.countB (TB l) (TB [c]) = Lib.count l [c] := rfl
  have h2 : (Lib.splitB (TB [c]) 0 (Lib.countB (TB l) (TB [c])) (TB l)).map (·.data.toList) = splitC c [] l := by
    rw [h, e]; exact splitC_split c l.length l (Nat.le_refl _)
  rw [← h2, List.map_map]
  rfl
theorem splitC_len (c : UInt8) : ∀ (l cur : List UInt8), (splitC c cur l).length = l.count c + 1
  | [], cur => rfl
  | b :: t, cur => by
    rw [splitC]
    split
    · rename_i h; subst h; rw [List.length_cons, splitC_len, List.count_cons_self]
    · rename_i h; rw [splitC_len, List.count_cons_of_ne (by simpa using h)]
theorem countB_C (c : UInt8) (l : List UInt8) : Lib.countB (TB l) (TB [c]) + 1 = (splitC c [] l).length := by
  rw [splitC_len]
  have e : Lib.countB (TB l) (TB [c]) = Lib.count l [c] := rfl
  rw [e, Lib.count_one]
theorem splitC_mem (c : UInt8) : ∀ (l cur x : List UInt8), x ∈ splitC c cur l → x.length ≤ cur.length + l.length
  | [], cur, x, h => by rw [splitC, List.mem_singleton] at h; subst h; omega
  | b :: t, cur, x, h => by
    rw [splitC] at h
    split at h
    · rcases List.mem_cons.1 h with rfl | h
      · omega
      · have := splitC_mem c t [] x h
        simp only [List.length_nil, List.length_cons] at this ⊢; omega
    · have := splitC_mem c t _ x h
      simp only [List.length_append, List.length_cons, List.length_nil] at this ⊢; omega

/-! numbers of a text -/
def dgt (b : UInt8) : Bool := decide (48 ≤ b.toNat) && decide (b.toNat ≤ 57)
theorem dgt_iff {b : UInt8} : dgt b = true ↔ 48 ≤ b.toNat ∧ b.toNat ≤ 57 := by unfold dgt; rw [Bool.and_eq_true, decide_eq_true_eq, decide_eq_true_eq]
def valD (n : Int) : List UInt8 → Int
  | [] => n
  | b :: t => valD (10 * n + ((b.toNat : Int) - 48)) t
theorem valD_snoc (b : UInt8) : ∀ (s : List UInt8) (n : Int), valD n (s ++ [b]) = 10 * valD n s + ((b.toNat : Int) - 48)
  | [], n => rfl
  | x :: t, n => by
    show valD (10 * n + _) (t ++ [b]) = 10 * valD (10 * n + _) t + _
    rw [valD_snoc b t]
/-- a number of at most six digits without leading zeros; -1 else -/
def nmL (s : List UInt8) : Int := if 1 ≤ s.length ∧ s.length ≤ 6 ∧ ¬ (1 < s.length ∧ s.headD 0 = 48) ∧ s.all dgt = true then valD 0 s else -1
/-- the reference's reading -/
def rdN : Int → List UInt8 → Int
  | n, [] => n
  | n, b :: t => if dgt b = false ∨ 99999 < n then -1 else rdN (10 * n + ((b.toNat : Int) - 48)) t
theorem valD_nn : ∀ (s : List UInt8) (n : Int), s.all dgt = true → 0 ≤ n → 0 ≤ valD n s
  | [], n, _, h => h
  | b :: t, n, h, h0 => by
    rw [List.all_cons, Bool.and_eq_true] at h
    have := dgt_iff.1 h.1
    exact valD_nn t _ h.2 (by omega)
theorem rdN_small : ∀ (s : List UInt8) (n : Int) (k : Nat), s.all dgt = true → 0 ≤ n → n < 10 ^ k → k + s.length ≤ 6 → rdN n s = valD n s
  | [], _, _, _, _, _, _ => rfl
  | b :: t, n, k, h, h0, h1, h2 => by
    rw [List.all_cons, Bool.and_eq_true] at h
    have h3 := dgt_iff.1 h.1
    rw [List.length_cons] at h2
    have h4 : (10 : Int) ^ k ≤ 10 ^ 5 := by
      have : (10 : Nat) ^ k ≤ 10 ^ 5 := Nat.pow_le_pow_right (by omega) (by omega)
      exact_mod_cast this
    rw [rdN, if_neg (by rw [h.1]; simp; omega), valD]
    exact rdN_small t _ (k + 1) h.2 (by omega) (by rw [Int.pow_succ]; omega) (by omega)
theorem rdN_big : ∀ (s : List UInt8) (n : Int), 0 ≤ n → n ≤ 999999 → 0 ≤ rdN n s → s.all dgt = true ∧ rdN n s = valD n s ∧ rdN n s ≤ 999999
  | [], n, h0, h1, _ => ⟨rfl, rfl, h1⟩
  | b :: t, n, h0, h1, h => by
    rw [rdN] at h ⊢
    by_cases hc : dgt b = false ∨ 99999 < n
    · rw [if_pos hc] at h; omega
    · rw [if_neg hc] at h ⊢
      have hb : dgt b = true := by
        cases e : dgt b
        · exact absurd (.inl e) hc
        · rfl
      have h3 := dgt_iff.1 hb
      have h4 : ¬ 99999 < n := fun e => hc (.inr e)
      obtain ⟨a1, a2, a3⟩ := rdN_big t _ (by omega) (by omega) h
      exact ⟨by rw [List.all_cons, hb, a1]; rfl, a2, a3⟩
theorem rdN_rng (s : List UInt8) : -1 ≤ rdN 0 s ∧ rdN 0 s ≤ 999999 := by
  have h1 : ∀ (s : List UInt8) (n : Int), 0 ≤ n → -1 ≤ rdN n s := by
    intro s
    induction s with
    | nil => intro n h; show -1 ≤ n; omega
    | cons b t ih =>
      intro n h
      rw [rdN]
      split
      · omega
      · rename_i hc
        have hb : dgt b = true := by
          cases e : dgt b
          · exact absurd (.inl e) hc
          · rfl
        have h3 := dgt_iff.1 hb
        exact ih _ (by omega)
  refine ⟨h1 s 0 (by omega), ?_⟩
  rcases Int.lt_or_le (rdN 0 s) 0 with h | h
  · omega
  · exact (rdN_big s 0 (by omega) (by omega) h).2.2
theorem u8_ofNat {n : Nat} (h : n < 10) : (UInt8.ofNat (48 + n)).toNat = 48 + n := by
  rw [UInt8.toNat_ofNat']; omega
theorem dec_of : ∀ (m : Nat) (s : List UInt8), s.length ≤ m → 1 ≤ s.length → ¬ (1 < s.length ∧ s.headD 0 = 48) → s.all dgt = true → Lib.decDigits (valD 0 s).toNat = s := by
  intro m
  induction m with
  | zero => intro s h1 h2; omega
  | succ m ih =>
    intro s h1 h2 h3 h4
    rcases List.eq_nil_or_concat s with rfl | ⟨t, b, rfl⟩
    · simp at h2
    rw [List.concat_eq_append] at h1 h2 h3 h4 ⊢
    rw [List.all_append, Bool.and_eq_true] at h4
    have hb : dgt b = true := by simpa using h4.2
    have hd := dgt_iff.1 hb
    rw [valD_snoc]
    have ub : UInt8.ofNat (48 + (b.toNat - 48)) = b := by
      rw [show 48 + (b.toNat - 48) = b.toNat by omega]; simp
    cases ht : t with
    | nil =>
      have e : (10 * valD 0 [] + ((b.toNat : Int) - 48)).toNat = b.toNat - 48 := by show (10 * 0 + _ : Int).toNat = _; omega
      rw [e, Lib.decDigits_one (by omega), ub]; rfl
    | cons x r =>
      subst ht
      have hx : ¬ (x = 48) := fun e => h3 ⟨by simp, by simp [e]⟩
      have hv := ih (x :: r) (by simp at h1 ⊢; omega) (by simp) (fun e => hx (by simpa using e.2)) h4.1
      have hnn := valD_nn (x :: r) 0 h4.1 (by omega)
      obtain ⟨V, hV⟩ := Int.eq_ofNat_of_zero_le hnn
      have hpos : 1 ≤ V := by
        rcases Nat.eq_zero_or_pos V with h0 | h0
        · rw [hV, h0] at hv
          have : Lib.decDigits (((0 : Nat) : Int).toNat) = [48] := by rw [show ((0 : Nat) : Int).toNat = 0 by rfl, Lib.decDigits_one (by omega)]; rfl
          rw [this] at hv
          injection hv with a _
          exact absurd a.symm hx
        · exact h0
      have e : (10 * valD 0 (x :: r) + ((b.toNat : Int) - 48)).toNat = 10 * V + (b.toNat - 48) := by rw [hV]; omega
      rw [e, Lib.decDigits, dif_neg (by omega), show (10 * V + (b.toNat - 48)) / 10 = V by omega, show (10 * V + (b.toNat - 48)) % 10 = b.toNat - 48 by omega, ub]
      have : Lib.decDigits V = x :: r := by rw [hV] at hv; simpa using hv
      rw [this]
theorem dec_ok : ∀ (n : Nat), (Lib.decDigits n).all dgt = true ∧ 1 ≤ (Lib.decDigits n).length ∧ ¬ (1 < (Lib.decDigits n).length ∧ (Lib.decDigits n).headD 0 = 48) ∧ (valD 0 (Lib.decDigits n) = n) ∧ (1 ≤ n → (Lib.decDigits n).headD 0 ≠ 48) := by
  intro n
  induction n using Nat.strongRecOn with
  | ind n ih =>
    by_cases h : n < 10
    · rw [Lib.decDigits_one h]
      have := u8_ofNat h
      refine ⟨?_, by simp, by simp, ?_, fun h1 e => ?_⟩
      · simp only [List.all_cons, List.all_nil, Bool.and_true]; exact dgt_iff.2 (by omega)
      · show 10 * 0 + (((UInt8.ofNat (48 + n)).toNat : Int) - 48) = n
        omega
      · have e2 : UInt8.ofNat (48 + n) = 48 := e
        rw [e2] at this
        have e3 : (48 : UInt8).toNat = 48 := rfl
        omega
    · obtain ⟨a1, a2, a3, a4, a5⟩ := ih (n / 10) (by omega)
      have hu := u8_ofNat (n := n % 10) (by omega)
      rw [Lib.decDigits, dif_neg h]
      have hh : (Lib.decDigits (n / 10) ++ [UInt8.ofNat (48 + n % 10)]).headD 0 = (Lib.decDigits (n / 10)).headD 0 := by
        cases hc : Lib.decDigits (n / 10) with
        | nil => rw [hc] at a2; simp at a2
        | cons x r => rfl
      refine ⟨?_, by simp, fun e => a5 (by omega) (by rw [← hh]; exact e.2), ?_, fun _ => by rw [hh]; exact a5 (by omega)⟩
      · rw [List.all_append, a1]
        simp only [List.all_cons, List.all_nil, Bool.and_true, Bool.true_and]; exact dgt_iff.2 (by omega)
      · rw [valD_snoc, a4, hu]; omega
/-- both readings are the same -/
theorem rd_nm (s : List UInt8) : nmL s = if rdN 0 s < 0 ∨ s = [] ∨ s ≠ Lib.decDigits (rdN 0 s).toNat then -1 else rdN 0 s := by
  by_cases hc : 1 ≤ s.length ∧ s.length ≤ 6 ∧ ¬ (1 < s.length ∧ s.headD 0 = 48) ∧ s.all dgt = true
  · obtain ⟨h1, h2, h3, h4⟩ := hc
    have e1 := rdN_small s 0 0 h4 (by omega) (by simp) (by omega)
    have e2 := dec_of s.length s (Nat.le_refl _) h1 h3 h4
    have e3 := valD_nn s 0 h4 (by omega)
    unfold nmL
    rw [if_pos ⟨h1, h2, h3, h4⟩, e1, if_neg]
    rintro (h | h | h)
    · omega
    · subst h; simp at h1
    · exact h e2.symm
  · unfold nmL
    rw [if_neg hc]
    by_cases h : rdN 0 s < 0 ∨ s = [] ∨ s ≠ Lib.decDigits (rdN 0 s).toNat
    · rw [if_pos h]
    · exfalso
      have h1 : ¬ rdN 0 s < 0 := fun e => h (.inl e)
      have h3 : s = Lib.decDigits (rdN 0 s).toNat := Classical.byContradiction fun e => h (.inr (.inr e))
      have h4 := rdN_rng s
      obtain ⟨a1, a2, a3, a4, a5⟩ := dec_ok (rdN 0 s).toNat
      have h6 := (dec_len (n := (rdN 0 s).toNat) (by omega)).2
      rw [← h3] at a1 a2 a3 h6
      exact hc ⟨a2, h6, a3, a1⟩
theorem nmL_rng (s : List UInt8) : -1 ≤ nmL s ∧ nmL s ≤ 999999 := by
  rw [rd_nm]
  have := rdN_rng s
  split <;> omega

/-! events of a text -/
/-- an event with k numbers of a text -/
def evS (k : Int) (ns : List Int) : Nat → List Int
  | 0 => [k, 0, 0, 0, 0, 0, 0]
  | j + 1 => (evS k ns j).set ((idxK k).getD j 0) (gi ns j)
theorem evS_len (k : Int) (ns : List Int) : ∀ j, (evS k ns j).length = 7
  | 0 => rfl
  | j + 1 => by rw [evS, List.length_set]; exact evS_len k ns j
/-- the kind of a text of a word and so many numbers -/
def kndT (w0 : List UInt8) (n : Nat) : Option Int := if w0 = wrd 0 ∧ n = 3 then some 0 else if w0 = wrd 1 ∧ n = 6 then some 1 else if w0 = wrd 2 ∧ n = 5 then some 2 else if w0 = wrd 3 ∧ n = 2 then some 3 else none
def badN (xs : List (List UInt8)) : Bool := xs.any fun x => decide (nmL x < 0)
/-- the numbers of the event of a text -/
def parE (l : List UInt8) : Option (List Int) :=
  match splitC 32 [] l with
  | [] => none
  | w0 :: xs => if badN xs = true then none else match kndT w0 xs.length with
    | none => none
    | some k => some (evS k (xs.map nmL) (xs.map nmL).length)
theorem splitC_ne (c : UInt8) (l cur : List UInt8) : splitC c cur l ≠ [] := fun e => by
  have := splitC_len c l cur
  rw [e] at this; simp at this
theorem kndT_some {w0 : List UInt8} {n : Nat} {k : Int} (h : kndT w0 n = some k) : 0 ≤ k ∧ k ≤ 3 ∧ n = (idxK k).length ∧ w0 = wrd k := by
  unfold kndT at h
  split at h
  · rename_i h1; injection h with h; subst h; exact ⟨by omega, by omega, h1.2, h1.1⟩
  · split at h
    · rename_i h1; injection h with h; subst h; exact ⟨by omega, by omega, h1.2, h1.1⟩
    · split at h
      · rename_i h1; injection h with h; subst h; exact ⟨by omega, by omega, h1.2, h1.1⟩
      · split at h
        · rename_i h1; injection h with h; subst h; exact ⟨by omega, by omega, h1.2, h1.1⟩
        · cases h
/-- the kinds one after the other -/
def kndF (w0 : List UInt8) (n : Nat) : Nat → Option Int
  | 0 => none
  | m + 1 => if w0 = wrd ((3 - m : Nat) : Int) ∧ n = (idxK ((3 - m : Nat) : Int)).length then some ((3 - m : Nat) : Int) else kndF w0 n m
theorem kndF_T (w0 : List UInt8) (n : Nat) : kndF w0 n 4 = kndT w0 n := rfl
end Go.Proofs.YtlabekemifccaaaDoor
