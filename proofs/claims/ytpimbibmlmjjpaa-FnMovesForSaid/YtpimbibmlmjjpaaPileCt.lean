/-
  Lemmas and contracts of single functions of this program, used by the proofs of its laws: what each call returns and what becomes of memory. Conditions: the hypotheses of each theorem.
-/
import Derived.Test.YtpimbibmlmjjpaaPileLab
namespace Go.Proofs.Ytpimbibmlmjjpaa
open Go.RowKit

/-- a roll on which nothing lies -/
def freeB (q : List (List Int)) (l : Int) : Bool := decide ((coneL q (fndR q l).toNat (fndC q l).toNat).length = 1)
def sCnt : Nat → List (List Int) → Int
  | 0, _ => 1
  | f + 1, q => (labelsL q).foldl (fun n l => if freeB q l = true then wrap64 (n + sCnt f (withoutL q l)) else n) 0
def cnt (q : List (List Int)) : Int := sCnt (labelsL q).length q
theorem foldl_congr {α β : Type} {f g : β → α → β} : ∀ (xs : List α) (b : β), (∀ x ∈ xs, ∀ b, f b x = g b x) → xs.foldl f b = xs.foldl g b
  | [], _, _ => rfl
  | x :: t, b, h => by
    rw [List.foldl_cons, List.foldl_cons, h x List.mem_cons_self, foldl_congr t _ fun y hy => h y (List.mem_cons_of_mem _ hy)]
theorem mem_above_less {p : List (List Int)} {U : List Int} {row at_ : Nat} {x : Int} : x ∈ aboveL (less p U) row at_ ↔ x ∈ aboveL p row at_ ∧ x ∉ U := by
  have hs := less_shape p U
  rw [mem_aboveL, mem_aboveL]
  constructor
  · rintro ⟨r, j, h1, h2, h3, h4, h5, h6, h7⟩
    rw [hs.1] at h2
    rw [hs.2] at h5
    rw [cell_less h2 h5] at h6
    split at h6
    · omega
    · rename_i h8
      exact ⟨⟨r, j, h1, h2, h3, h4, h5, h6, h7⟩, fun h9 => h8 (by rw [h6]; exact inL_iff.2 h9)⟩
  · rintro ⟨⟨r, j, h1, h2, h3, h4, h5, h6, h7⟩, h8⟩
    refine ⟨r, j, h1, by rw [hs.1]; exact h2, h3, h4, by rw [hs.2]; exact h5, ?_, h7⟩
    rw [cell_less h2 h5, h6, if_neg (by rw [inL_iff]; exact h8)]
/-- what a label of a lessened pile is -/
theorem less_label {p : List (List Int)} {U : List Int} {l : Int} : l ∈ labelsL (less p U) ↔ l ∈ labelsL p ∧ l ∉ U := by
  rw [labels_less, List.mem_filter]
  simp only [Bool.not_eq_true']
  rw [inL_false]
theorem free_less {p : List (List Int)} (hv : Uniq p) {U : List Int} {r i : Nat} (hr : r < p.length) (hi : i < (gr p r).length) (hp : 0 < cell p r i) (hU : cell p r i ∉ U) :
    freeB (less p U) (cell p r i) = true ↔ ∀ x ∈ aboveL p r i, x ∈ U := by
  obtain ⟨e1, e2⟩ := less_fnd hv hr hi hp hU
  have hs := less_shape p U
  have e : cell (less p U) r i = cell p r i := by rw [cell_less hr hi, if_neg (by rw [inL_iff]; exact hU)]
  unfold freeB
  rw [e1, e2, Int.toNat_natCast, Int.toNat_natCast, coneL_above (by rw [hs.1]; exact hr) (by rw [hs.2]; exact hi) (by rw [e]; exact hp), decide_eq_true_iff]
  simp only [List.length_append, List.length_singleton, Nat.add_eq_right, List.length_eq_zero_iff]
  constructor
  · intro h x hx
    by_cases hxU : x ∈ U
    · exact hxU
    · have := mem_above_less.2 ⟨hx, hxU⟩
      rw [h] at this
      cases this
  · intro h
    refine List.eq_nil_iff_forall_not_mem.2 fun x hx => ?_
    have := mem_above_less.1 hx
    exact this.2 (h x this.1)
theorem filter_one {xs : List Int} (hn : xs.Nodup) {l : Int} {f g : Int → Bool} (hl : l ∈ xs) (hf : f l = true) (hg : ∀ x ∈ xs, g x = (f x && !(x == l))) : (xs.filter f).length = (xs.filter g).length + 1 := by
  induction xs with
  | nil => cases hl
  | cons a t ih =>
    rw [List.nodup_cons] at hn
    rw [List.filter_cons, List.filter_cons]
    have ha := hg a List.mem_cons_self
    by_cases hal : a = l
    · subst hal
      have hga : g a = false := by rw [ha]; simp
      rw [hf, hga]
      have : t.filter f = t.filter g := List.filter_congr fun x hx => by
        rw [hg x (List.mem_cons_of_mem _ hx)]
        have : (x == a) = false := by simp; rintro rfl; exact hn.1 hx
        rw [this]; simp
      simp [this]
    · have hlt : l ∈ t := by rcases List.mem_cons.1 hl with h | h; exact absurd h.symm hal; exact h
      have := ih hn.2 hlt fun x hx => hg x (List.mem_cons_of_mem _ hx)
      have hga : g a = f a := by rw [ha]; have : (a == l) = false := by simpa using hal
                                 rw [this]; simp
      rw [hga]
      cases f a <;> simp <;> omega
/-- a free roll alone goes -/
theorem free_without {p : List (List Int)} (hv : Uniq p) {U V : List Int} {r i : Nat} (hr : r < p.length) (hi : i < (gr p r).length) (hp : 0 < cell p r i) (hU : cell p r i ∉ U) (hf : freeB (less p U) (cell p r i) = true)
    (hV : ∀ x, x ∈ V ↔ x ∈ U ∨ x = cell p r i) : withoutL (less p U) (cell p r i) = less p V := by
  rw [less_without hv hr hi hp hU]
  refine less_congr fun x => ?_
  have h := (free_less hv hr hi hp hU).1 hf
  rw [List.mem_append, hV, coneL_above hr hi hp, List.mem_append, List.mem_singleton]
  exact ⟨fun h' => h'.elim .inl fun h' => h'.elim (fun h' => .inl (h x h')) .inr, fun h' => h'.elim .inl fun h' => .inr (.inr h')⟩
theorem free_count {p : List (List Int)} (hv : Uniq p) (hn : (labelsL p).Nodup) {U : List Int} {r i : Nat} (hr : r < p.length) (hi : i < (gr p r).length) (hp : 0 < cell p r i) (hU : cell p r i ∉ U) (hf : freeB (less p U) (cell p r i) = true) :
    (labelsL (less p U)).length = (labelsL (withoutL (less p U) (cell p r i))).length + 1 := by
  rw [free_without hv hr hi hp hU hf (V := U ++ [cell p r i]) (by intro x; simp), labels_less, labels_less]
  refine filter_one hn (mem_labels.2 ⟨r, i, hr, hi, rfl, hp⟩) (by rw [inL_false.2 hU]; rfl) fun x _ => ?_
  have : inL (U ++ [cell p r i]) x = (inL U x || (x == cell p r i)) := by
    unfold inL
    rw [List.any_append]
    simp only [List.any_cons, List.any_nil, Bool.or_false]
    rw [show (cell p r i == x) = (x == cell p r i) from Bool.beq_comm]
  rw [this, Bool.not_or]
theorem cnt_less {p : List (List Int)} (hv : Uniq p) (hn : (labelsL p).Nodup) (U : List Int) : cnt (less p U) = if labelsL (less p U) = [] then 1 else (labelsL (less p U)).foldl (fun n l => if freeB (less p U) l = true then wrap64 (n + cnt (withoutL (less p U) l)) else n) 0 := by
  by_cases h : labelsL (less p U) = []
  · rw [if_pos h, cnt, h]; rfl
  · rw [if_neg h]
    obtain ⟨m, hm⟩ : ∃ m, (labelsL (less p U)).length = m + 1 := by
      cases hl : labelsL (less p U) with
      | nil => exact absurd hl h
      | cons a t => exact ⟨t.length, rfl⟩
    unfold cnt
    rw [hm, sCnt]
    refine foldl_congr _ _ fun l hl b => ?_
    by_cases hf : freeB (less p U) l = true
    · obtain ⟨h1, h2⟩ := less_label.1 hl
      obtain ⟨r, i, hr, hi, rfl, hp⟩ := mem_labels.1 h1
      have := free_count hv hn hr hi hp h2 hf
      rw [if_pos hf, if_pos hf, show (labelsL (withoutL (less p U) (cell p r i))).length = m by omega]
    · rw [if_neg hf, if_neg hf]

/-- the labels whose bits are not there -/
def offs (L : List Int) (m : Nat) : List Int := ((List.range L.length).filter fun i => !m.testBit i).map (gi L)
def sel (L : List Int) (m : Nat) : List Int := ((List.range L.length).filter fun i => m.testBit i).map (gi L)
theorem gi_inj {L : List Int} (hn : L.Nodup) {i j : Nat} (hi : i < L.length) (hj : j < L.length) (h : gi L i = gi L j) : i = j := by
  rw [gi_eq hi, gi_eq hj] at h
  exact (List.getElem_inj hn).1 h
theorem mem_offs {L : List Int} (hn : L.Nodup) {m i : Nat} (hi : i < L.length) : gi L i ∈ offs L m ↔ m.testBit i = false := by
  unfold offs
  rw [List.mem_map]
  constructor
  · rintro ⟨j, hj, e⟩
    rw [List.mem_filter, List.mem_range] at hj
    have := gi_inj hn hj.1 hi e
    subst this
    simpa using hj.2
  · intro h
    exact ⟨i, by rw [List.mem_filter, List.mem_range]; exact ⟨hi, by simp [h]⟩, rfl⟩
theorem map_gi (L : List Int) : (List.range L.length).map (gi L) = L := by
  apply List.ext_getElem (by simp)
  intro i h1 h2
  simp only [List.getElem_map, List.getElem_range]
  exact gi_eq h2
theorem labels_offs {p : List (List Int)} (hn : (labelsL p).Nodup) (m : Nat) : labelsL (less p (offs (labelsL p) m)) = sel (labelsL p) m := by
  rw [labels_less]
  obtain ⟨L, hL⟩ : ∃ L, L = labelsL p := ⟨_, rfl⟩
  rw [← hL] at hn ⊢
  unfold sel
  conv => lhs; rw [← map_gi L]
  rw [List.filter_map]
  have : (List.range L.length).filter ((fun x => !inL (offs ((List.range L.length).map (gi L)) m) x) ∘ gi L) = (List.range L.length).filter fun i => m.testBit i := by
    refine List.filter_congr fun i hi => ?_
    rw [List.mem_range] at hi
    rw [map_gi]
    show (!inL (offs L m) (gi L i)) = m.testBit i
    cases hb : m.testBit i
    · rw [inL_iff.2 ((mem_offs hn hi).2 hb)]; rfl
    · rw [inL_false.2 (fun h => by rw [(mem_offs hn hi).1 h] at hb; cases hb)]; rfl
  rw [this]
/-- the bits of what lies above a roll -/
def bitsOf (L xs : List Int) : Nat := xs.foldl (fun a x => a ||| (1 <<< (plc L x).toNat)) 0
theorem bits_go (L : List Int) (k : Nat) : ∀ (xs : List Int) (a : Nat), (xs.foldl (fun a x => a ||| (1 <<< (plc L x).toNat)) a).testBit k = true ↔ a.testBit k = true ∨ ∃ x ∈ xs, (plc L x).toNat = k
  | [], a => by simp
  | x :: t, a => by
    rw [List.foldl_cons, bits_go L k t]
    simp only [Nat.testBit_or, Bool.or_eq_true, List.mem_cons, exists_eq_or_imp, Nat.one_shiftLeft, Nat.testBit_two_pow, decide_eq_true_eq, or_assoc]
theorem bitsOf_iff {L xs : List Int} {k : Nat} : (bitsOf L xs).testBit k = true ↔ ∃ x ∈ xs, (plc L x).toNat = k := by
  unfold bitsOf; rw [bits_go]; simp
theorem plc_gi {L : List Int} (hn : L.Nodup) {i : Nat} (hi : i < L.length) : plc L (gi L i) = i := by
  have h0 := plcFrom_some (gi L i) L 0 i hi rfl
  obtain ⟨j, h1, h2, h3⟩ := plc_spec (show 0 ≤ plc L (gi L i) from h0)
  have := gi_inj hn h2 hi h3
  omega
theorem and_zero {a b : Nat} : a &&& b = 0 ↔ ∀ k, a.testBit k = true → b.testBit k = false := by
  constructor
  · intro h k ha
    have := congrArg (·.testBit k) h
    simp only [Nat.testBit_and, Nat.zero_testBit, ha, Bool.true_and] at this
    exact this
  · intro h
    refine Nat.eq_of_testBit_eq fun k => ?_
    rw [Nat.testBit_and, Nat.zero_testBit]
    cases ha : a.testBit k
    · rfl
    · rw [h k ha]; rfl
theorem abv_of {p : List (List Int)} (hv : ValidP p) {r i : Nat} (hr : r < p.length) (hi : i < (gr p r).length) (hp : 0 < cell p r i) : abvL p (cell p r i) = aboveL p r i := by
  obtain ⟨e3, e4⟩ := valid_FR hv hr hi hp
  unfold abvL; rw [e3, e4, if_pos (by omega)]; rfl
theorem above_labels {p : List (List Int)} {r i : Nat} {x : Int} (h : x ∈ aboveL p r i) : x ∈ labelsL p := by
  obtain ⟨a, b, _, h2, _, _, h5, h6, h7⟩ := mem_aboveL.1 h
  exact mem_labels.2 ⟨a, b, h2, h5, h6, h7⟩
theorem gi_mem {L : List Int} {i : Nat} (h : i < L.length) : gi L i ∈ L := by rw [gi_eq h]; exact List.getElem_mem h
theorem mem_gi {L : List Int} {x : Int} (h : x ∈ L) : ∃ i, i < L.length ∧ gi L i = x := by
  obtain ⟨i, hi, e⟩ := List.getElem_of_mem h
  exact ⟨i, hi, by rw [gi_eq hi]; exact e⟩
theorem free_bits {p : List (List Int)} (hv : ValidP p) {m i : Nat} (hi : i < (labelsL p).length) (hm : m.testBit i = true) :
    freeB (less p (offs (labelsL p) m)) (gi (labelsL p) i) = true ↔ m &&& bitsOf (labelsL p) (abvL p (gi (labelsL p) i)) = 0 := by
  have hn := labels_nodup hv
  have hU : gi (labelsL p) i ∉ offs (labelsL p) m := fun h => by rw [(mem_offs hn hi).1 h] at hm; cases hm
  obtain ⟨r, c, hr, hc, e, hp⟩ := mem_labels.1 (gi_mem hi)
  rw [← e] at hU hp ⊢
  rw [free_less (uniq_of_valid hv) hr hc (by omega) hU, abv_of hv hr hc (by omega), and_zero]
  constructor
  · intro h k hk
    cases hb : (bitsOf (labelsL p) (aboveL p r c)).testBit k
    · rfl
    · obtain ⟨x, hx, hxk⟩ := bitsOf_iff.1 hb
      obtain ⟨j, hj, rfl⟩ := mem_gi (above_labels hx)
      rw [plc_gi hn hj] at hxk
      have := (mem_offs hn hj).1 (h _ hx)
      rw [show k = j by omega, this] at hk
      cases hk
  · intro h x hx
    obtain ⟨j, hj, rfl⟩ := mem_gi (above_labels hx)
    rw [mem_offs hn hj]
    cases hb : m.testBit j
    · rfl
    · have := h j hb
      rw [bitsOf_iff.2 ⟨_, hx, by rw [plc_gi hn hj]; rfl⟩] at this
      cases this
/-- one number of the program's table -/
def CT (p : List (List Int)) (m : Nat) : Int := cnt (less p (offs (labelsL p) m))
def stepT (p : List (List Int)) (m : Nat) (n : Int) (i : Nat) : Int :=
  if m.testBit i = true ∧ m &&& bitsOf (labelsL p) (abvL p (gi (labelsL p) i)) = 0 then wrap64 (n + CT p (m ^^^ (1 <<< i))) else n
theorem foldl_filter' {α β : Type} (f : β → α → β) (g : α → Bool) : ∀ (xs : List α) (b : β), (xs.filter g).foldl f b = xs.foldl (fun b x => if g x = true then f b x else b) b
  | [], _ => rfl
  | x :: t, b => by
    rw [List.filter_cons, List.foldl_cons]
    by_cases h : g x = true
    · rw [if_pos h, if_pos h, List.foldl_cons, foldl_filter' f g t]
    · rw [if_neg h, if_neg h, foldl_filter' f g t]
theorem CT_zero (p : List (List Int)) (hn : (labelsL p).Nodup) : CT p 0 = 1 := by
  have : labelsL (less p (offs (labelsL p) 0)) = [] := by
    rw [labels_offs hn]; unfold sel; simp
  unfold CT cnt
  rw [this]; rfl
theorem CT_step {p : List (List Int)} (hv : ValidP p) {m : Nat} (h0 : m ≠ 0) (hm : m < 2 ^ (labelsL p).length) : CT p m = (List.range (labelsL p).length).foldl (stepT p m) 0 := by
  have hn := labels_nodup hv
  have hu := uniq_of_valid hv
  unfold CT
  rw [cnt_less hu hn, labels_offs hn]
  have hne : sel (labelsL p) m ≠ [] := by
    intro e
    apply h0
    refine Nat.eq_of_testBit_eq fun k => ?_
    rw [Nat.zero_testBit]
    cases hb : m.testBit k
    · rfl
    · exfalso
      have hk : k < (labelsL p).length := by
        rcases Nat.lt_or_ge k (labelsL p).length with h | h
        · exact h
        · have := Nat.testBit_lt_two_pow (Nat.lt_of_lt_of_le hm (Nat.pow_le_pow_right (by omega) h))
          rw [this] at hb; cases hb
      have : gi (labelsL p) k ∈ sel (labelsL p) m := by
        unfold sel
        exact List.mem_map.2 ⟨k, by rw [List.mem_filter, List.mem_range]; exact ⟨hk, hb⟩, rfl⟩
      rw [e] at this; cases this
  rw [if_neg hne]
  unfold sel
  rw [List.foldl_map, foldl_filter']
  refine foldl_congr _ _ fun i hi b => ?_
  rw [List.mem_range] at hi
  unfold stepT
  cases hb : m.testBit i
  · simp
  · have hf := free_bits hv hi hb
    simp only [if_true, true_and]
    by_cases hz : m &&& bitsOf (labelsL p) (abvL p (gi (labelsL p) i)) = 0
    · rw [if_pos (hf.2 hz), if_pos hz]
      have hU : gi (labelsL p) i ∉ offs (labelsL p) m := fun h => by rw [(mem_offs hn hi).1 h] at hb; cases hb
      have hfr := hf.2 hz
      obtain ⟨r, c, hr, hc, e, hp⟩ := mem_labels.1 (gi_mem hi)
      rw [← e] at hU hp hfr ⊢
      rw [free_without hu hr hc (by omega) hU hfr (V := offs (labelsL p) (m ^^^ (1 <<< i)))]
      · rfl
      · intro x
        rw [e]
        constructor
        · intro hx
          unfold offs at hx
          obtain ⟨j, hj, rfl⟩ := List.mem_map.1 hx
          rw [List.mem_filter, List.mem_range] at hj
          by_cases hji : j = i
          · exact .inr (by rw [hji])
          · refine .inl ((mem_offs hn hj.1).2 ?_)
            have := hj.2
            rw [Nat.testBit_xor, Nat.one_shiftLeft, Nat.testBit_two_pow] at this
            have h2 : decide (i = j) = false := by simp; omega
            rw [h2] at this
            simpa using this
        · rintro (hx | rfl)
          · unfold offs at hx
            obtain ⟨j, hj, rfl⟩ := List.mem_map.1 hx
            rw [List.mem_filter, List.mem_range] at hj
            rw [mem_offs hn hj.1]
            have hji : decide (i = j) = false := by
              simp; rintro rfl; have := hj.2; rw [hb] at this; cases this
            rw [Nat.testBit_xor, Nat.one_shiftLeft, Nat.testBit_two_pow, hji]
            simpa using hj.2
          · rw [mem_offs hn hi, Nat.testBit_xor, Nat.one_shiftLeft, Nat.testBit_two_pow, hb]
            simp
    · rw [if_neg (fun h => hz (hf.1 h)), if_neg hz]
theorem CT_all (p : List (List Int)) : CT p (2 ^ (labelsL p).length - 1) = cnt p := by
  unfold CT
  have : offs (labelsL p) (2 ^ (labelsL p).length - 1) = [] := by
    unfold offs
    rw [List.map_eq_nil_iff, List.filter_eq_nil_iff]
    intro i hi
    rw [List.mem_range] at hi
    rw [Nat.testBit_two_pow_sub_one]
    simp [hi]
  rw [this, less_nil]
end Go.Proofs.Ytpimbibmlmjjpaa
