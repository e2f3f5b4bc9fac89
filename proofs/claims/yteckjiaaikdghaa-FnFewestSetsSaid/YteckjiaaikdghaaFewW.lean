/-
  Lemmas and contracts of single functions of this program, used by the proofs of its laws: what each call returns and what becomes of memory. Conditions: the hypotheses of each theorem.
-/
import Derived.Test.YteckjiaaikdghaaFewR
import Derived.Test.YteckjiaaikdghaaRegLast
namespace Go.Proofs.Yteckjiaaikdghaa
open Go.RowKit

/-! the least number of sets, the reference's way -/
def MinS (W : Int) (ws c : List Int) (m : Nat) : Prop := (∃ L : List (List Int), L.length = m ∧ CovN W ws (gi c) L) ∧ ∀ L : List (List Int), CovN W ws (gi c) L → m ≤ L.length
theorem minS_ex {W : Int} {ws c : List Int} (h : vWid W ws = true) (hl : c.length = ws.length) (h0 : ∀ i, 0 ≤ gi c i) : ∃ m, MinS W ws c m := by
  obtain ⟨L, hL, hc⟩ := cov_single h c.sum.toNat c hl h0 (by omega)
  have key : ∀ n, (∃ L : List (List Int), L.length ≤ n ∧ CovN W ws (gi c) L) → ∃ m, MinS W ws c m := by
    intro n
    induction n with
    | zero => rintro ⟨L, h1, h2⟩; exact ⟨0, ⟨L, by omega, h2⟩, fun _ _ => Nat.zero_le _⟩
    | succ n ih =>
      rintro ⟨L, h1, h2⟩
      by_cases hx : ∃ L : List (List Int), L.length ≤ n ∧ CovN W ws (gi c) L
      · exact ih hx
      · refine ⟨L.length, ⟨L, rfl, h2⟩, fun L' h' => ?_⟩
        have : ¬ L'.length ≤ n := fun hh => hx ⟨L', hh, h'⟩
        omega
  exact key L.length ⟨L, Nat.le_refl _, hc⟩
open Classical in
noncomputable def mS (W : Int) (ws c : List Int) : Nat := if h : ∃ m, MinS W ws c m then Classical.choose h else 0
theorem mS_is {W : Int} {ws c : List Int} (h : vWid W ws = true) (hl : c.length = ws.length) (h0 : ∀ i, 0 ≤ gi c i) : MinS W ws c (mS W ws c) := by
  have he := minS_ex h hl h0
  unfold mS
  rw [dif_pos he]
  exact Classical.choose_spec he
theorem colS_nn {W : Int} {ws : List Int} {L : List (List Int)} (h : ∀ p ∈ L, vPat W ws p = true) (i : Nat) : 0 ≤ colS L i := (colS_rng fun c hm => by
  have h6 := vPat_iff.1 (h c hm)
  have h7 := h6.2.2.1
  have h8 : 0 ≤ gi c i := gi_nn (fun i hi => (h7 i hi).1) i
  have h9 := (vWid_iff.1 h6.1).2.1
  refine ⟨h8, ?_⟩
  by_cases hh : i < c.length
  · have := h7 i hh; omega
  · have : gi c i = 0 := by unfold gi; rw [List.getD_eq_getElem?_getD, List.getElem?_eq_none (by omega)]; rfl
    omega).1
theorem pat_nn {W : Int} {ws p : List Int} (h : vPat W ws p = true) (i : Nat) : 0 ≤ gi p i := gi_nn (fun i hi => ((vPat_iff.1 h).2.2.1 i hi).1) i
/-- what is left of counts behind a pattern -/
def lfC (c p : List Int) : List Int := (List.range c.length).map fun i => max 0 (gi c i - gi p i)
theorem lfC_len (c p : List Int) : (lfC c p).length = c.length := by simp [lfC]
theorem lfC_gi {c p : List Int} {i : Nat} (h : i < c.length) : gi (lfC c p) i = max 0 (gi c i - gi p i) := by unfold lfC; rw [gi_map_range h]
theorem gi_outS {c : List Int} {i : Nat} (h : c.length ≤ i) : gi c i = 0 := by unfold gi; rw [List.getD_eq_getElem?_getD, List.getElem?_eq_none h]; rfl
theorem lfC_nn (c p : List Int) (i : Nat) : 0 ≤ gi (lfC c p) i := by
  by_cases h : i < c.length
  · rw [lfC_gi h]; omega
  · rw [gi_outS (by rw [lfC_len]; omega)]; omega
theorem lfC_le {c p : List Int} (h0 : ∀ i, 0 ≤ gi c i) (hp : ∀ i, 0 ≤ gi p i) (i : Nat) : gi (lfC c p) i ≤ gi c i := by
  by_cases h : i < c.length
  · rw [lfC_gi h]; have := h0 i; have := hp i; omega
  · rw [gi_outS (by rw [lfC_len]; omega)]; exact h0 i
theorem lfC_sum {c p : List Int} (h0 : ∀ i, 0 ≤ gi c i) (hp : ∀ i, 0 ≤ gi p i) : (lfC c p).sum ≤ c.sum := by
  rw [← sumI_all, ← sumI_all, lfC_len]
  exact sumI_mono (lfC_le h0 hp) _
section
variable {W : Int} {ws : List Int} (hv : vWid W ws = true)
include hv
theorem mS_le {c : List Int} (hl : c.length = ws.length) (h0 : ∀ i, 0 ≤ gi c i) (L : List (List Int)) (h : CovN W ws (gi c) L) : mS W ws c ≤ L.length := (mS_is hv hl h0).2 L h
theorem mS_sum {c : List Int} (hl : c.length = ws.length) (h0 : ∀ i, 0 ≤ gi c i) : (mS W ws c : Int) ≤ c.sum := by
  have hs := (sumG_pos (ys := c) fun i _ => h0 i).1
  obtain ⟨L, hL, hc⟩ := cov_single hv c.sum.toNat c hl h0 (by omega)
  have := mS_le hv hl h0 L hc
  omega
theorem mS_zero {c : List Int} (hl : c.length = ws.length) (h0 : ∀ i, 0 ≤ gi c i) (hs : c.sum = 0) : mS W ws c = 0 := by
  have := mS_sum hv hl h0
  omega
theorem mS_pos {c : List Int} (hl : c.length = ws.length) (h0 : ∀ i, 0 ≤ gi c i) {i : Nat} (hi : i < c.length) (hp : 0 < gi c i) : 1 ≤ mS W ws c := by
  obtain ⟨L, hL, hc⟩ := (mS_is hv hl h0).1
  have h1 := hc.2 i (by omega)
  cases L with
  | nil => have : colS [] i = 0 := rfl; omega
  | cons p t => rw [List.length_cons] at hL; omega
/-- fewer counts want no more -/
theorem mS_mono {c d : List Int} (hl : c.length = ws.length) (hl2 : d.length = ws.length) (h0 : ∀ i, 0 ≤ gi c i) (hcd : ∀ i, gi c i ≤ gi d i) : mS W ws c ≤ mS W ws d := by
  obtain ⟨L, hL, hc⟩ := (mS_is hv hl2 fun i => by have := h0 i; have := hcd i; omega).1
  rw [← hL]
  exact mS_le hv hl h0 L ⟨hc.1, fun i hi => by have := hc.2 i hi; have := hcd i; omega⟩
theorem mS_step {c p : List Int} (hl : c.length = ws.length) (h0 : ∀ i, 0 ≤ gi c i) (hp : vPat W ws p = true) : mS W ws c ≤ 1 + mS W ws (lfC c p) := by
  obtain ⟨L, hL, hc⟩ := (mS_is hv (c := lfC c p) (by rw [lfC_len]; exact hl) (lfC_nn c p)).1
  have := mS_le hv hl h0 (p :: L) ⟨fun x hx => by
      rcases List.mem_cons.1 hx with rfl | hx
      · exact hp
      · exact hc.1 x hx, fun i hi => by
    have h1 := hc.2 i hi
    rw [lfC_gi (by omega)] at h1
    rw [colS_cons]; omega⟩
  rw [List.length_cons] at this
  omega
theorem mS_pick {c : List Int} (hl : c.length = ws.length) (h0 : ∀ i, 0 ≤ gi c i) {f : Nat} (hf : f < c.length) (hp : 0 < gi c f) {all : List (List Int)} (ha : ∀ p, vPat W ws p = true → ∃ p' ∈ all, vPat W ws p' = true ∧ ∀ i, gi p i ≤ gi p' i) :
    ∃ p ∈ all, 0 < gi p f ∧ 1 + mS W ws (lfC c p) ≤ mS W ws c := by
  obtain ⟨L, hL, hc⟩ := (mS_is hv hl h0).1
  have h1 := hc.2 f (by omega)
  have key : ∀ L : List (List Int), 0 < colS L f → ∃ a p b, L = a ++ p :: b ∧ 0 < gi p f := by
    intro L
    induction L with
    | nil => intro h; have : colS [] f = 0 := rfl; omega
    | cons p t ih =>
      intro h
      by_cases hq : 0 < gi p f
      · exact ⟨[], p, t, rfl, hq⟩
      · rw [colS_cons] at h
        obtain ⟨a, q, b, e, hq2⟩ := ih (by omega)
        exact ⟨p :: a, q, b, by rw [e]; rfl, hq2⟩
  obtain ⟨a, p, b, rfl, hpf⟩ := key L (by omega)
  obtain ⟨p', hm, hv', hle⟩ := ha p (hc.1 p (by simp))
  refine ⟨p', hm, by have := hle f; omega, ?_⟩
  have hcol : ∀ i, colS (a ++ p :: b) i = colS (a ++ b) i + gi p i := fun i => by
    unfold colS; simp only [List.map_append, List.map_cons, List.sum_append, List.sum_cons]; omega
  have hok : ∀ q ∈ a ++ b, vPat W ws q = true := fun q hq => hc.1 q (by
    rcases List.mem_append.1 hq with h | h
    · exact List.mem_append_left _ h
    · exact List.mem_append_right _ (List.mem_cons_of_mem _ h))
  have := mS_le hv (c := lfC c p') (by rw [lfC_len]; exact hl) (lfC_nn c p') (a ++ b) ⟨hok, fun i hi => by
    rw [lfC_gi (by omega)]
    have h2 := hc.2 i hi
    rw [hcol] at h2
    have h3 := hle i
    have h4 := colS_nn hok i
    omega⟩
  simp only [List.length_append, List.length_cons] at hL this
  omega
end
/-- the search over all patterns with a first width -/
noncomputable def sB (W : Int) (ws c : List Int) (all : List (List Int)) (f : Nat) (most : Nat) : Nat → Nat
  | 0 => most + 1
  | k + 1 => if gi (gr all k) f = 0 then sB W ws c all f most k else min (sB W ws c all f most k) (1 + mS W ws (lfC c (gr all k)))
theorem sB_le {W : Int} {ws c : List Int} {all : List (List Int)} {f most : Nat} : ∀ k, sB W ws c all f most (k + 1) ≤ sB W ws c all f most k := fun k => by
  rw [sB]; split <;> omega
theorem sB_anti {W : Int} {ws c : List Int} {all : List (List Int)} {f most k : Nat} : ∀ m, k ≤ m → sB W ws c all f most m ≤ sB W ws c all f most k
  | 0, h => by obtain rfl : k = 0 := by omega
               exact Nat.le_refl _
  | m + 1, h => by
    by_cases hk : k = m + 1
    · subst hk; exact Nat.le_refl _
    · exact Nat.le_trans (sB_le m) (sB_anti m (by omega))
/-- all patterns that are wanted -/
def AllP (W : Int) (ws : List Int) (all : List (List Int)) : Prop := (∀ p ∈ all, vPat W ws p = true) ∧ ∀ p, vPat W ws p = true → ∃ p' ∈ all, vPat W ws p' = true ∧ ∀ i, gi p i ≤ gi p' i
theorem gr_memS {all : List (List Int)} {k : Nat} (h : k < all.length) : gr all k ∈ all := by
  unfold gr; rw [List.getD_eq_getElem?_getD, List.getElem?_eq_getElem h]; exact List.getElem_mem _
theorem mem_gr {all : List (List Int)} {p : List Int} (h : p ∈ all) : ∃ k, k < all.length ∧ gr all k = p := by
  obtain ⟨k, hk, e⟩ := List.mem_iff_getElem.1 h
  exact ⟨k, hk, by unfold gr; rw [List.getD_eq_getElem?_getD, List.getElem?_eq_getElem hk]; exact e⟩
theorem sB_ge {W : Int} {ws c : List Int} {all : List (List Int)} {f most : Nat} (hv : vWid W ws = true) (ha : AllP W ws all) (hl : c.length = ws.length) (h0 : ∀ i, 0 ≤ gi c i) : ∀ k, k ≤ all.length → min (mS W ws c) (most + 1) ≤ sB W ws c all f most k
  | 0, _ => by rw [sB]; omega
  | k + 1, hk => by
    have ih := sB_ge (f := f) (most := most) hv ha hl h0 k (by omega)
    have h1 := mS_step hv hl h0 (ha.1 _ (gr_memS (k := k) (by omega)))
    rw [sB]; split <;> omega
theorem sB_end {W : Int} {ws c : List Int} {all : List (List Int)} {f most : Nat} (hv : vWid W ws = true) (ha : AllP W ws all) (hl : c.length = ws.length) (h0 : ∀ i, 0 ≤ gi c i) (hf : f < c.length) (hp : 0 < gi c f) : sB W ws c all f most all.length = min (mS W ws c) (most + 1) := by
  refine Nat.le_antisymm ?_ (sB_ge hv ha hl h0 _ (Nat.le_refl _))
  obtain ⟨p, hm, hpf, hle⟩ := mS_pick hv hl h0 hf hp ha.2
  obtain ⟨k, hk, rfl⟩ := mem_gr hm
  have h1 : sB W ws c all f most (k + 1) ≤ 1 + mS W ws (lfC c (gr all k)) := by rw [sB, if_neg (by omega)]; omega
  have h2 := sB_anti (W := W) (ws := ws) (c := c) (all := all) (f := f) (most := most) (k := k + 1) all.length (by omega)
  have h3 := sB_anti (W := W) (ws := ws) (c := c) (all := all) (f := f) (most := most) (k := 0) all.length (by omega)
  rw [sB] at h3
  omega
/-- nothing is less than one -/
theorem sB_one {W : Int} {ws c : List Int} {all : List (List Int)} {f most k : Nat} (hv : vWid W ws = true) (ha : AllP W ws all) (hl : c.length = ws.length) (h0 : ∀ i, 0 ≤ gi c i) (hf : f < c.length) (hp : 0 < gi c f) (hk : k ≤ all.length) (h1 : sB W ws c all f most k ≤ 1) : sB W ws c all f most k = min (mS W ws c) (most + 1) := by
  have h2 := sB_ge (f := f) (most := most) hv ha hl h0 k hk
  have h3 := mS_pos hv hl h0 hf hp
  omega

/-! the patterns -/
def fpD (f : Nat → List (List Int)) : Nat → List (List Int)
  | 0 => []
  | n + 1 => f n ++ fpD f n
def fpR (ws : List Int) : Nat → Int → List Int → List (List Int)
  | 0, W, b => if (ws.any fun x => decide (x ≤ W)) = true then [] else [b]
  | r + 1, W, b => fpD (fun n => fpR ws r (W - n * gi ws b.length) (b ++ [(n : Int)])) (W / gi ws b.length + 1).toNat
theorem fpD_mem {f : Nat → List (List Int)} {p : List Int} : ∀ {n : Nat}, p ∈ fpD f n ↔ ∃ m, m < n ∧ p ∈ f m
  | 0 => by simp [fpD]
  | n + 1 => by
    rw [fpD, List.mem_append, fpD_mem]
    constructor
    · rintro (h | ⟨m, h1, h2⟩)
      · exact ⟨n, by omega, h⟩
      · exact ⟨m, by omega, h2⟩
    · rintro ⟨m, h1, h2⟩
      by_cases hm : m = n
      · subst hm; exact .inl h2
      · exact .inr ⟨m, by omega, h2⟩
theorem fpD_len {f : Nat → List (List Int)} {B : Nat} : ∀ {n : Nat}, (∀ m, m < n → (f m).length ≤ B) → (fpD f n).length ≤ n * B
  | 0, _ => by simp [fpD]
  | n + 1, h => by
    have h1 := fpD_len (n := n) fun m hm => h m (by omega)
    have h2 := h n (by omega)
    rw [fpD, List.length_append, Nat.succ_mul]; omega
theorem quo_ok {W g : Int} {n : Nat} (hW : 0 ≤ W) (hg : 1 ≤ g) (hn : n < (W / g + 1).toNat) : 0 ≤ W - n * g ∧ W - n * g ≤ W := by
  have h1 : (n : Int) ≤ W / g := by omega
  have h2 := Int.mul_le_mul_of_nonneg_right h1 (show 0 ≤ g by omega)
  have h3 := Int.ediv_mul_le W (show g ≠ 0 by omega)
  have h4 := Int.mul_nonneg (show (0 : Int) ≤ (n : Int) by omega) (show 0 ≤ g by omega)
  omega
theorem quo_24 {W g : Int} (hW : 0 ≤ W) (h24 : W ≤ 24) (hg : 1 ≤ g) : (W / g + 1).toNat ≤ 25 ∧ 0 ≤ W / g := by
  have h1 := Int.ediv_le_self g hW
  have h2 := Int.ediv_nonneg hW (show 0 ≤ g by omega)
  omega
theorem fpR_len {ws : List Int} (hw : ∀ i, i < ws.length → 1 ≤ gi ws i) : ∀ (r : Nat) (W : Int) (b : List Int), 0 ≤ W → W ≤ 24 → b.length + r = ws.length → (fpR ws r W b).length ≤ 25 ^ r
  | 0, W, b, _, _, _ => by rw [fpR]; split <;> simp
  | r + 1, W, b, h0, h24, hl => by
    have hg := hw b.length (by omega)
    have h1 := quo_24 h0 h24 hg
    have h2 := fpD_len (f := fun n => fpR ws r (W - n * gi ws b.length) (b ++ [(n : Int)])) (B := 25 ^ r) (n := (W / gi ws b.length + 1).toNat) fun m hm => by
      have := quo_ok h0 hg hm
      exact fpR_len hw r _ _ (by omega) (by omega) (by simp; omega)
    rw [fpR, Nat.pow_succ]
    have h3 := Nat.mul_le_mul_right (25 ^ r) h1.1
    omega
theorem used_app {ws a : List Int} {x : Int} : ∀ {k : Nat}, k ≤ a.length → usedL ws (a ++ [x]) k = usedL ws a k
  | 0, _ => rfl
  | k + 1, h => by
    show usedL ws (a ++ [x]) k + gi (a ++ [x]) k * gi ws k = usedL ws a k + gi a k * gi ws k
    rw [used_app (k := k) (by omega), gi_app (by omega)]
theorem fpR_ok {ws : List Int} (hw : ∀ i, i < ws.length → 1 ≤ gi ws i) {W0 : Int} : ∀ (r : Nat) (W : Int) (b : List Int), 0 ≤ W → b.length + r = ws.length → usedL ws b b.length + W ≤ W0 → (∀ i, 0 ≤ gi b i) → ∀ p ∈ fpR ws r W b, p.length = ws.length ∧ (∀ i, 0 ≤ gi p i) ∧ usedL ws p p.length ≤ W0
  | 0, W, b, h0, hl, hu, hb, p, hp => by
    rw [fpR] at hp
    split at hp
    · cases hp
    · rw [List.mem_singleton] at hp
      subst hp
      exact ⟨by omega, hb, by omega⟩
  | r + 1, W, b, h0, hl, hu, hb, p, hp => by
    rw [fpR, fpD_mem] at hp
    obtain ⟨n, hn, hp⟩ := hp
    have hg := hw b.length (by omega)
    have h1 := quo_ok h0 hg hn
    refine fpR_ok hw r _ _ h1.1 (by simp; omega) ?_ ?_ p hp
    · rw [List.length_append, List.length_singleton]
      show usedL ws (b ++ [(n : Int)]) b.length + gi (b ++ [(n : Int)]) b.length * gi ws b.length + _ ≤ _
      rw [used_app (Nat.le_refl _), gi_last]
      omega
    · intro i
      by_cases hi : i < b.length
      · rw [gi_app hi]; exact hb i
      · by_cases he : i = b.length
        · subst he; rw [gi_last]; omega
        · rw [gi_outS (by simp; omega)]; omega
theorem take_snoc {p : List Int} {k : Nat} (h : k < p.length) : p.take (k + 1) = p.take k ++ [gi p k] := by
  rw [List.take_succ_eq_append_getElem h, gi_eq h]
theorem used_take {ws p : List Int} {m : Nat} : ∀ {k : Nat}, k ≤ m → usedL ws (p.take m) k = usedL ws p k
  | 0, _ => rfl
  | k + 1, h => by
    show usedL ws (p.take m) k + gi (p.take m) k * gi ws k = usedL ws p k + gi p k * gi ws k
    have e : gi (p.take m) k = gi p k := by unfold gi; rw [List.getD_eq_getElem?_getD, List.getElem?_take_of_lt (by omega), List.getD_eq_getElem?_getD]
    rw [used_take (k := k) (by omega), e]
/-- a pattern that leaves no room is among them -/
theorem fpR_mem {W0 : Int} {ws p : List Int} (hp : vPat W0 ws p = true) (hf : ∀ i, i < ws.length → W0 - usedL ws p p.length < gi ws i) : ∀ (r k : Nat), k + r = ws.length → p ∈ fpR ws r (W0 - usedL ws p k) (p.take k)
  | 0, k, h => by
    obtain ⟨hd, hl, _, hu⟩ := vPat_iff.1 hp
    obtain rfl : k = p.length := by omega
    rw [fpR, List.take_length]
    have : (ws.any fun x => decide (x ≤ W0 - usedL ws p p.length)) = false := by
      rw [List.any_eq_false]
      intro x hx
      obtain ⟨i, hi, rfl⟩ := List.mem_iff_getElem.1 hx
      have := hf i hi
      rw [gi_eq hi] at this
      simp; omega
    rw [this]; simp
  | r + 1, k, h => by
    obtain ⟨hd, hl, h0, hu⟩ := vPat_iff.1 hp
    have ih := fpR_mem hp hf r (k + 1) (by omega)
    have hk : k < p.length := by omega
    have e : (p.take k).length = k := by rw [List.length_take]; omega
    rw [fpR, fpD_mem]
    obtain ⟨n, hn⟩ := Int.eq_ofNat_of_zero_le (h0 k hk).1
    have hg := (vWid_w hd (i := k) (by omega)).1
    have hst := used_step (ws := ws) (cs := p) (n := p.length) (fun i hi => ⟨(h0 i hi).1, by have := vWid_w hd (i := i) (by omega); omega⟩) (k := k + 1) (by omega) (m := p.length) (by omega) (Nat.le_refl _)
    have hsk : usedL ws p (k + 1) = usedL ws p k + gi p k * gi ws k := rfl
    refine ⟨n, ?_, ?_⟩
    · rw [e]
      have h1 : (n : Int) ≤ (W0 - usedL ws p k) / gi ws k := by
        rw [Int.le_ediv_iff_mul_le (by omega), ← hn]; omega
      omega
    · rw [e, ← hn, ← take_snoc hk]
      have e2 : W0 - usedL ws p k - gi p k * gi ws k = W0 - usedL ws p (k + 1) := by rw [hsk]; omega
      rw [e2]; exact ih
theorem pat_grow {W : Int} {ws : List Int} : ∀ (m : Nat) (p : List Int), vPat W ws p = true → (W - usedL ws p p.length).toNat ≤ m → ∃ p', vPat W ws p' = true ∧ (∀ i, gi p i ≤ gi p' i) ∧ ∀ i, i < ws.length → W - usedL ws p' p'.length < gi ws i := by
  intro m
  induction m with
  | zero =>
    intro p hp hm
    obtain ⟨hd, hl, h0, hu⟩ := vPat_iff.1 hp
    exact ⟨p, hp, fun i => Int.le_refl _, fun i hi => by have := vWid_w hd hi; omega⟩
  | succ m ih =>
    intro p hp hm
    obtain ⟨hd, hl, h0, hu⟩ := vPat_iff.1 hp
    rcases Classical.em (∃ i, i < ws.length ∧ gi ws i ≤ W - usedL ws p p.length) with ⟨i, hi, hg⟩ | hn
    · have hw := vWid_w hd hi
      have hip : i < p.length := by omega
      have e : usedL ws (p.set i (gi p i + 1)) (p.set i (gi p i + 1)).length = usedL ws p p.length + gi ws i := by
        rw [used_set hip, List.length_set, if_pos hip, Int.add_mul, Int.one_mul]; omega
      obtain ⟨p', h1, h2, h3⟩ := ih (p.set i (gi p i + 1)) (vPat_mk hd (by rw [List.length_set]; exact hl) (fun j _ => by
        by_cases ej : i = j
        · subst ej; rw [giG_eq hip]; have := h0 i hip; omega
        · rw [giG_ne ej]; exact pat_nn hp j) (by rw [e]; omega)) (by rw [e]; omega)
      refine ⟨p', h1, fun j => ?_, h3⟩
      have h4 := h2 j
      by_cases ej : i = j
      · subst ej; rw [giG_eq hip] at h4; omega
      · rw [giG_ne ej] at h4; exact h4
    · exact ⟨p, hp, fun i => Int.le_refl _, fun i hi => by
        have : ¬ gi ws i ≤ W - usedL ws p p.length := fun h => hn ⟨i, hi, h⟩
        omega⟩
theorem fp_all {W : Int} {ws : List Int} (hv : vWid W ws = true) : AllP W ws (fpR ws ws.length W []) := by
  have hd := vWid_iff.1 hv
  have hw : ∀ i, i < ws.length → 1 ≤ gi ws i := fun i hi => (vWid_w hv hi).1
  have h1 : ∀ p ∈ fpR ws ws.length W [], vPat W ws p = true := fun p hp => by
    obtain ⟨a, b, c⟩ := fpR_ok hw (W0 := W) ws.length W [] (by omega) (by simp) (by show (0 : Int) + W ≤ W; omega) (fun i => by rw [gi_outS (by simp)]; omega) p hp
    exact vPat_mk hv a (fun i _ => b i) c
  refine ⟨h1, fun p hp => ?_⟩
  obtain ⟨p', h2, h3, h4⟩ := pat_grow _ p hp (Nat.le_refl _)
  refine ⟨p', ?_, h2, h3⟩
  have := fpR_mem h2 h4 ws.length 0 (by omega)
  have e : W - usedL ws p' 0 = W := by show W - 0 = W; omega
  rw [e, List.take_zero] at this
  exact this

/-! the law -/
theorem mS_fw {W : Int} {ws ns : List Int} (h : vFew W ws ns = true) : fwN W ws ns (stN ns ns.length - 1).toNat = mS W ws ns := by
  obtain ⟨hv, hW, h8⟩ := vFew_iff.1 h
  obtain ⟨hd, hl, hr, _⟩ := vWan_iff.1 hv
  have h0 := few_nn h
  obtain ⟨ht, he⟩ := fw_top h
  have hcov : ∀ L, CovN W ws (dAt ns ((stN ns ns.length - 1).toNat : Int)) L ↔ CovN W ws (gi ns) L := fun L =>
    ⟨fun hc => ⟨hc.1, fun i hi => by rw [← he i (by omega)]; exact hc.2 i hi⟩, fun hc => ⟨hc.1, fun i hi => by rw [he i (by omega)]; exact hc.2 i hi⟩⟩
  obtain ⟨L, hL, hc⟩ := fw_cov h _ ht
  have h1 := mS_le hd hl h0 L ((hcov L).1 hc)
  obtain ⟨L2, hL2, hc2⟩ := (mS_is hd hl h0).1
  have h2 := fw_le h L2 _ ht ((hcov L2).2 hc2)
  omega
theorem fwL_mS {W : Int} {ws ns : List Int} (h : vFew W ws ns = true) : fwL W ws ns = mS W ws ns := by
  unfold fwL; rw [if_pos h, mS_fw h]
/-- the area -/
theorem mS_area {W : Int} {ws ns : List Int} (hd : vWid W ws = true) (hl : ns.length = ws.length) (h0 : ∀ i, 0 ≤ gi ns i) : usedL ws ns ns.length ≤ mS W ws ns * W := by
  obtain ⟨L, hL, hc⟩ := (mS_is hd hl h0).1
  have h3 := used_col (vs := ws) L ws.length
  have h4 := sum_leP (b := W) (L := L.map fun c => usedL ws c ws.length) fun x hx => by
    obtain ⟨c, hm, rfl⟩ := List.mem_map.1 hx
    obtain ⟨_, b, _, d⟩ := vPat_iff.1 (hc.1 c hm)
    rw [← b]; exact d
  rw [List.length_map, ← h3, hL] at h4
  have key : ∀ k, k ≤ ws.length → usedL ws ns k ≤ usedL ws ((List.range ws.length).map (colS L)) k := by
    intro k
    induction k with
    | zero => intro _; exact Int.le_refl _
    | succ k ih =>
      intro hk
      have ih := ih (by omega)
      have h5 := hc.2 k (by omega)
      have := Int.mul_le_mul_of_nonneg_right h5 (show 0 ≤ gi ws k by have := vWid_w hd (i := k) (by omega); omega)
      show usedL ws ns k + gi ns k * gi ws k ≤ usedL ws _ k + gi ((List.range ws.length).map (colS L)) k * gi ws k
      rw [gi_map_range (show k < ws.length by omega)]
      omega
  have := key ws.length (Nat.le_refl _)
  rw [hl]; omega
theorem fs_greedy {W : Int} {ws ns : List Int} (h : vFew W ws ns = true) : fwL W ws ns ≤ (gsL W ws ns).length := by
  obtain ⟨hv, hW, h8⟩ := vFew_iff.1 h
  obtain ⟨hd, hl, hr, _⟩ := vWan_iff.1 hv
  rw [fwL_mS h]
  have := mS_le hd hl (few_nn h) (gsL W ws ns) ⟨gs_pat, fun i _ => by rw [gs_sum hv]; exact Int.le_refl _⟩
  omega
/-- with one roll less -/
theorem fs_less {W : Int} {ws ns : List Int} (h : vFew W ws ns = true) {i : Nat} (hi : i < ns.length) : fwL W ws (ns.set i (max 0 (gi ns i - 1))) ≤ fwL W ws ns ∧ fwL W ws ns - 1 ≤ fwL W ws (ns.set i (max 0 (gi ns i - 1))) := by
  obtain ⟨hv, hW, h8⟩ := vFew_iff.1 h
  obtain ⟨hd, hl, hr, h60⟩ := vWan_iff.1 hv
  have h0 := few_nn h
  obtain ⟨o, ho⟩ : ∃ o, o = ns.set i (max 0 (gi ns i - 1)) := ⟨_, rfl⟩
  rw [← ho]
  have hol : o.length = ws.length := by rw [ho, List.length_set]; exact hl
  have hoi : gi o i = max 0 (gi ns i - 1) := by rw [ho, giG_eq hi]
  have hon : ∀ j, i ≠ j → gi o j = gi ns j := fun j hj => by rw [ho, giG_ne hj]
  have hle : ∀ j, 0 ≤ gi o j ∧ gi o j ≤ gi ns j := fun j => by
    by_cases e : i = j
    · subst e; rw [hoi]; have := h0 i; omega
    · rw [hon j e]; exact ⟨h0 j, Int.le_refl _⟩
  have hos : o.sum ≤ ns.sum := by rw [ho, sumG_set hi]; have := h0 i; omega
  have hvo : vFew W ws o = true := vFew_iff.2 ⟨vWan_iff.2 ⟨hd, hol, fun j hj => by have := hle j; have := hr j (by omega); omega, by omega⟩, hW, by omega⟩
  rw [fwL_mS h, fwL_mS hvo]
  have h1 := mS_mono hd hol hl (fun j => (hle j).1) fun j => (hle j).2
  have h2 := mS_step hd hl h0 (pat_one hd (i := i) (by omega))
  have h3 := mS_mono hd (c := lfC ns ((List.replicate ws.length 0).set i 1)) (d := o) (by rw [lfC_len]; exact hl) hol (lfC_nn _ _) fun j => by
    by_cases hj : j < ns.length
    · rw [lfC_gi hj]
      by_cases e : i = j
      · subst e; rw [giG_eq (by simp; omega), hoi]; exact Int.le_refl _
      · rw [giG_ne e, gi_rep, hon j e]; have := h0 j; omega
    · rw [gi_outS (by rw [lfC_len]; omega)]; exact (hle j).1
  omega
end Go.Proofs.Yteckjiaaikdghaa

namespace Go.Proofs.Yteckjiaaikdghaa
open Go.RowKit
attribute [local go_sem ↓] Go.wp_at_zero Go.wp_at_succ

theorem gv_appL {a b : List Value} {k : Nat} (h : k < a.length) : gv (a ++ b) k = gv a k := by unfold gv; simp [List.getD, List.getElem?_append_left h]
theorem gv_appR {a b : List Value} {k : Nat} (h : a.length ≤ k) : gv (a ++ b) k = gv b (k - a.length) := by unfold gv; simp [List.getD, List.getElem?_append_right h]
theorem gr_appL {a b : List (List Int)} {k : Nat} (h : k < a.length) : gr (a ++ b) k = gr a k := by unfold gr; simp [List.getD, List.getElem?_append_left h]
theorem gr_appR {a b : List (List Int)} {k : Nat} (h : a.length ≤ k) : gr (a ++ b) k = gr b (k - a.length) := by unfold gr; simp [List.getD, List.getElem?_append_right h]
theorem own_rd {w : World} {base tS n : Nat} {v : Value} {vs : List Value} (h : w.ownsRow base tS 1 v n vs) : ∃ A c, v = .slice A n c ∧ Rd w base w.heap.size 1 A n vs := by
  obtain ⟨hl, hv⟩ := h
  rcases hv with ⟨rfl, hn⟩ | ⟨g, cap, cur, rfl, hb, hg, hc, hm, hs, ht⟩
  · subst hn
    exact ⟨none, 0, rfl, by simpa using hl, fun h => absurd h (by simp)⟩
  · refine ⟨some ⟨g, 0, none⟩, cap, rfl, hl, fun _ => ⟨g, 0, rfl, hb, (Array.getElem?_eq_some_iff.1 hg).1, fun j u hu => ?_⟩⟩
    rw [Nat.zero_add, cell_of_row w g j cur tS (0, 0) hg, ← Array.getElem?_toList]
    rw [← ht, List.getElem?_take] at hu
    split at hu
    · exact hu
    · cases hu
theorem slice_one {v : Value} {A : Option Addr} {n c : Nat} (h : v = .slice A n c) : v.oneCell' = true := by subst h; rfl
/-- 'append(v, u...)' of lists of lists: u was made by a call that began at block sz -/
theorem wpList_appendRs {P : Program} {t e tI : TypeId} (S : SlT P t e (.slice none 0 0) 1 24) (hte : e ≠ tI) {ops : Array Oper} {rest : List Oper} {o : Oper} {a : Act} {Q : Exit → Act → World → Prop} (w : World) (hgd : o.guard = none) (s x : Operand)
    (ho : o.op = .call { callee := .builtin .append, args := #[s, x], argTypes := #[t, t] })
    (base sz : Nat) (v u : Value) (xss yss : List (List Int)) (hs : a.eval s = v) (hx : a.eval x = u) (hown : OwnR w base sz e tI v xss) (hu : OwnR w sz w.heap.size e tI u yss)
    (hn : xss.length + yss.length ≤ 1099511627776) (hb : base ≤ sz) (hsz : sz ≤ w.heap.size)
    (h : ∀ v' w', OwnR w' base w'.heap.size e tI v' (xss ++ yss) → Grew base v v' w w' → wpList P ops Q rest (a.put o.dst v') w') :
    wpList P ops Q (o :: rest) a w := by
  obtain ⟨vs, h1, h2, h3, h4⟩ := hown
  obtain ⟨us, k1, k2, k3, k4⟩ := hu
  have hvl := ownsRow_len h1
  have hul := ownsRow_len k1
  obtain ⟨A, c, rfl, hrd⟩ := own_rd k1
  refine wpList_append_many S w hgd s x ho sz w.heap.size A yss.length c base v xss.length vs us hs hx h1 hrd (fun z hz => ?_) (by omega) (by omega) (by omega) fun v' w' g1 g2 g3 => ?_
  · obtain ⟨i, hi, rfl⟩ := List.mem_iff_getElem.1 hz
    obtain ⟨A', c', e', _⟩ := (k3 i (by omega)).1.form
    rw [gv_eq hi] at e'
    exact slice_one e'
  have kold : ∀ k, k < w.heap.size → some k ≠ v.ownBlock → w'.heap[k]? = w.heap[k]? := fun k hk hne => g2.block k hk hne
  refine h v' w' ⟨vs ++ us, by rw [List.length_append]; exact g1, fun g hg => (g1.lt g hg).2, fun k hk => ?_, fun j k hjk hk g hg => ?_⟩ ⟨g3, g2.size, kold⟩
  · rw [List.length_append] at hk
    by_cases hkl : k < xss.length
    · rw [gv_appL (by omega), gr_appL hkl]
      refine ⟨(h3 k hkl).1.keptBlock fun g hg => kold g ((h3 k hkl).1.lt g hg).2 fun e => own_types h1 (h3 k hkl).1.1 hte e.symm hg, fun g hg => ?_⟩
      have := (h3 k hkl).2 g hg
      have := g2.size
      omega
    · rw [gv_appR (by omega), gr_appR (by omega), hvl]
      have hk2 : k - xss.length < yss.length := by omega
      have hI := (k3 _ hk2).1
      refine ⟨(hI.base hb).keptBlock fun g hg => kold g (hI.lt g hg).2 fun e => own_types h1 hI.1 hte e.symm hg, fun g hg => ?_⟩
      have := (hI.lt g hg).2
      have := g2.size
      omega
  · rw [List.length_append] at hk
    by_cases hkl : k < xss.length
    · rw [gv_appL (by omega)] at hg ⊢
      exact h4 j k hjk hkl g hg
    · rw [gv_appR (by omega), hvl]
      by_cases hjl : j < xss.length
      · rw [gv_appL (by omega)] at hg
        intro e
        have := ((k3 _ (show k - xss.length < yss.length by omega)).1.lt g e).1
        have := (h3 j hjl).2 g hg
        omega
      · rw [gv_appR (by omega), hvl] at hg
        exact k4 (j - xss.length) (k - xss.length) (by omega) (by omega) g hg
/-- a list of one list -/
theorem OwnR.single {w : World} {base tS tI n c : Nat} {A : Option Addr} {ys : List Int} (hu : OwnI w base tI (.slice A n c) ys) (hb : base ≤ w.heap.size) : OwnR (w.alloc (.cells #[.slice A n c] tS)) base (w.heap.size + 1) tS tI (.slice (some ⟨w.heap.size, 0, none⟩) 1 1) [ys] := by
  refine ⟨[.slice A n c], ⟨rfl, .inr ⟨w.heap.size, 1, #[.slice A n c], rfl, hb, heap_alloc_new w _, Nat.le_refl _, by simp [maxLen], rfl, rfl⟩⟩, fun g hg => ?_, fun k hk => ?_, fun j k hjk hk => absurd hk (by simp; omega)⟩
  · simp [Value.ownBlock] at hg; omega
  · obtain rfl : k = 0 := by simpa using hk
    exact ⟨hu.alloc _, fun g hg => by have := (hu.lt g hg).2; omega⟩

/-- 'append(v, u...)' at a step of a region that draws -/
theorem step_append_many {P : Program} {t e : TypeId} {z : Value} {size bytes : Nat} (S : SlT P t e z size bytes) {ops : Array Oper} {o : Oper} {a : Act} {K : Act → World → Prop} {Q : Exit → Act → World → Prop} {E : Prop} (w : World) (hgd : o.guard = none) (s x : Operand)
    (ho : o.op = .call { callee := .builtin .append, args := #[s, x], argTypes := #[t, t] }) (lo hi : Nat) (A : Option Addr) (m c : Nat)
    (base : Nat) (v : Value) (n : Nat) (xs ys : List Value) (hs : a.eval s = v) (hx : a.eval x = .slice A m c) (hown : w.ownsRow base e size v n xs) (hsrc : Rd w lo hi size A m ys) (h1 : ∀ u ∈ ys, u.oneCell' = true)
    (hn : (n + m) * bytes ≤ 140737488355328) (hn2 : n + m ≤ 140737488355328) (hb : base ≤ w.heap.size)
    (h : ∀ v' w', w'.ownsRow base e size v' (n + m) (xs ++ ys) → w.grownBy w' v.ownBlock → Below base w w' → K (a.put o.dst v') w') :
    if Region.wanted o (yielded ops a.tmps) = true then Oper.wp P o a w K Q else E := by
  have hw : Region.wanted o (yielded ops a.tmps) = true := by simp [Region.wanted, hgd]
  rw [if_pos hw]
  obtain ⟨i, hi', hz1, hz2, hz3⟩ := info_parts S.hi
  rcases Nat.eq_zero_or_pos m with h0 | h0
  · subst h0
    have hy : ys = [] := List.eq_nil_of_length_eq_zero (by simpa using hsrc.1)
    subst hy
    rcases A with _ | ad
    · have hr := run_append_of_nil (P := P) w base t o.type e i size S.ht hi' v n xs hown c
      unfold Oper.wp execOp
      simp only [ho, resolve, invoke, builtin, Sem.run_bind, Sem.run_pure, Result.andThen_ok, List.map_toArray, List.map_cons, List.map_nil, hs, hx, hr]
      exact h v w (by simpa using hown) (World.grownBy.refl w _) (Below.refl _ _)
    · exact wp_append_own w s x t ho base e i z size bytes S.ht hi' hz1 hz2 hz3 S.hz S.hs v n xs hs hown ad 0 c [] hx (by simp) (fun j u hu => by simp at hu) h1 (by unfold maxLen; omega) hn hb
        fun v' w' k1 k2 _ => h v' w' k1 k2 ((Below.refl base w).grown k2 hb fun k hk => (hown.lt k hk).1)
  · obtain ⟨b, o', rfl, _, _, hc⟩ := hsrc.2 h0
    exact wp_append_own w s x t ho base e i z size bytes S.ht hi' hz1 hz2 hz3 S.hz S.hs v n xs hs hown ⟨b, o', none⟩ m c ys hx hsrc.1 (fun j u hu => by
        have := hc j u hu
        have hadd : (⟨b, o', none⟩ : Addr).add j = ⟨b, o' + j, none⟩ := by unfold Addr.add; split <;> simp_all
        rw [hadd]; exact this) h1 (by unfold maxLen; omega) hn hb
      fun v' w' k1 k2 _ => h v' w' k1 k2 ((Below.refl base w).grown k2 hb fun k hk => (hown.lt k hk).1)
theorem step_appendIs {P : Program} {t e : TypeId} (S : SlT P t e (.int .i64 0) 1 8) {ops : Array Oper} {o : Oper} {a : Act} {K : Act → World → Prop} {Q : Exit → Act → World → Prop} {E : Prop} (w : World) (hgd : o.guard = none) (s x : Operand)
    (ho : o.op = .call { callee := .builtin .append, args := #[s, x], argTypes := #[t, t] }) (lo hi : Nat) (u : Value)
    (base : Nat) (v : Value) (xs ys : List Int) (hs : a.eval s = v) (hx : a.eval x = u) (hown : OwnI w base e v xs) (hsrc : Ints w lo hi u ys)
    (hn : xs.length + ys.length ≤ 1099511627776) (hb : base ≤ w.heap.size)
    (h : ∀ v' w', OwnI w' base e v' (xs ++ ys) → Grew base v v' w w' → K (a.put o.dst v') w') :
    if Region.wanted o (yielded ops a.tmps) = true then Oper.wp P o a w K Q else E := by
  obtain ⟨A, c, rfl, hc, hm, hr, h64⟩ := hsrc
  refine step_append_many S w hgd s x ho lo hi A ys.length c base v xs.length (xs.map (.int .i64)) (ys.map (.int .i64)) hs hx hown.1 hr (ints_oneCell _ _) (by omega) (by omega) hb fun v' w' k1 k2 k3 => h v' w' ⟨by simpa using k1, ?_⟩ ⟨k3, k2.size, k2.block⟩
  intro y hy
  rcases List.mem_append.1 hy with hy | hy
  · exact hown.2 y hy
  · exact h64 y hy
/-- the same at a step of a region that draws: lists of lists: u was made by a call that began at block sz -/
theorem step_appendRs {P : Program} {t e tI : TypeId} (S : SlT P t e (.slice none 0 0) 1 24) (hte : e ≠ tI) {ops : Array Oper} {o : Oper} {a : Act} {K : Act → World → Prop} {Q : Exit → Act → World → Prop} {E : Prop} (w : World) (hgd : o.guard = none) (s x : Operand)
    (ho : o.op = .call { callee := .builtin .append, args := #[s, x], argTypes := #[t, t] })
    (base sz : Nat) (v u : Value) (xss yss : List (List Int)) (hs : a.eval s = v) (hx : a.eval x = u) (hown : OwnR w base sz e tI v xss) (hu : OwnR w sz w.heap.size e tI u yss)
    (hn : xss.length + yss.length ≤ 1099511627776) (hb : base ≤ sz) (hsz : sz ≤ w.heap.size)
    (h : ∀ v' w', OwnR w' base w'.heap.size e tI v' (xss ++ yss) → Grew base v v' w w' → K (a.put o.dst v') w') :
    if Region.wanted o (yielded ops a.tmps) = true then Oper.wp P o a w K Q else E := by
  obtain ⟨vs, h1, h2, h3, h4⟩ := hown
  obtain ⟨us, k1, k2, k3, k4⟩ := hu
  have hvl := ownsRow_len h1
  have hul := ownsRow_len k1
  obtain ⟨A, c, rfl, hrd⟩ := own_rd k1
  refine step_append_many S w hgd s x ho sz w.heap.size A yss.length c base v xss.length vs us hs hx h1 hrd (fun z hz => ?_) (by omega) (by omega) (by omega) fun v' w' g1 g2 g3 => ?_
  · obtain ⟨i, hi, rfl⟩ := List.mem_iff_getElem.1 hz
    obtain ⟨A', c', e', _⟩ := (k3 i (by omega)).1.form
    rw [gv_eq hi] at e'
    exact slice_one e'
  have kold : ∀ k, k < w.heap.size → some k ≠ v.ownBlock → w'.heap[k]? = w.heap[k]? := fun k hk hne => g2.block k hk hne
  refine h v' w' ⟨vs ++ us, by rw [List.length_append]; exact g1, fun g hg => (g1.lt g hg).2, fun k hk => ?_, fun j k hjk hk g hg => ?_⟩ ⟨g3, g2.size, kold⟩
  · rw [List.length_append] at hk
    by_cases hkl : k < xss.length
    · rw [gv_appL (by omega), gr_appL hkl]
      refine ⟨(h3 k hkl).1.keptBlock fun g hg => kold g ((h3 k hkl).1.lt g hg).2 fun e => own_types h1 (h3 k hkl).1.1 hte e.symm hg, fun g hg => ?_⟩
      have := (h3 k hkl).2 g hg
      have := g2.size
      omega
    · rw [gv_appR (by omega), gr_appR (by omega), hvl]
      have hk2 : k - xss.length < yss.length := by omega
      have hI := (k3 _ hk2).1
      refine ⟨(hI.base hb).keptBlock fun g hg => kold g (hI.lt g hg).2 fun e => own_types h1 hI.1 hte e.symm hg, fun g hg => ?_⟩
      have := (hI.lt g hg).2
      have := g2.size
      omega
  · rw [List.length_append] at hk
    by_cases hkl : k < xss.length
    · rw [gv_appL (by omega)] at hg ⊢
      exact h4 j k hjk hkl g hg
    · rw [gv_appR (by omega), hvl]
      by_cases hjl : j < xss.length
      · rw [gv_appL (by omega)] at hg
        intro e
        have := ((k3 _ (show k - xss.length < yss.length by omega)).1.lt g e).1
        have := (h3 j hjl).2 g hg
        omega
      · rw [gv_appR (by omega), hvl] at hg
        exact k4 (j - xss.length) (k - xss.length) (by omega) (by omega) g hg

theorem any_no {ws : List Int} {W : Int} (h : ∀ i, i < ws.length → ¬ gi ws i ≤ W) : (ws.any fun x => decide (x ≤ W)) = false := by
  rw [List.any_eq_false]
  intro x hx
  obtain ⟨i, hi, rfl⟩ := List.mem_iff_getElem.1 hx
  have := h i hi
  rw [gi_eq hi] at this
  simp; omega
theorem any_yes {ws : List Int} {W : Int} {i : Nat} (hi : i < ws.length) (h : gi ws i ≤ W) : (ws.any fun x => decide (x ≤ W)) = true := by
  rw [List.any_eq_true]
  exact ⟨gi ws i, by rw [gi_eq hi]; exact List.getElem_mem hi, by simpa using h⟩
theorem copyIntsF_any (lo hi : Nat) (v : Value) (xs : List Int) (w : World) (h : Ints w lo hi v xs) (hhi : hi ≤ w.heap.size) (hl : xs.length ≤ 1099511627776) :
    Calls Try.prog 89 #[v] w fun e w' => ∃ v', e = .returned v' ∧ OwnI w' w.heap.size 3 v' xs ∧ Below w.heap.size w w' := by
  obtain ⟨A, c, rfl, hc, hm⟩ := h.form
  have h2 : Ints (w.alloc (.cells #[] 3)) lo hi (.slice A xs.length c) xs := h.kept fun k _ hk => Below.heap_alloc w _ k (by omega)
  go_enter Try.func89, Try.ntmps89
  go_wp2_with (at_builtin; refine wpList_appendIs SlI _ rfl (.tmp 3) (.tmp 4) rfl _ _ _ w.heap.size _ [] _ rfl rfl (OwnI.empty _ _ _ (Nat.le_refl _)) h2 (by simpa using hl) (by simp) ?_; intro v' w1 hown1 hg)
  go_ret
  exact ⟨_, rfl, by simpa using hown1, ((Below.refl _ _).alloc (Nat.le_refl _) _).trans hg.below⟩
set_option maxRecDepth 100000 in
set_option maxHeartbeats 4000000 in
theorem patterns_any (ws : List Int) (hw : ∀ i, i < ws.length → 1 ≤ gi ws i ∧ gi ws i ≤ 60) (hn6 : ws.length ≤ 6) : ∀ (r l1 h1 l2 h2 : Nat) (W : Int) (v u : Value) (b : List Int) (w : World), Ints w l1 h1 v ws → h1 ≤ w.heap.size → Ints w l2 h2 u b → h2 ≤ w.heap.size → 0 ≤ W → W ≤ 24 → b.length + r = ws.length →
    Calls Try.prog 108 #[.int .i64 W, v, u] w fun e w' => ∃ v', e = .returned v' ∧ OwnR w' w.heap.size w'.heap.size 22 3 v' (fpR ws r W b) ∧ Below w.heap.size w w' := by
  intro r
  induction r with
  | zero =>
    intro l1 h1 l2 h2 W v u b w h hh1 hy hh2 h0 h24 hl
    obtain ⟨A, c, rfl, hc, hm⟩ := h.form
    obtain ⟨B, d, rfl, hd, hm2⟩ := hy.form
    obtain ⟨R, hR⟩ : ∃ R, R = fpR ws 0 W b := ⟨_, rfl⟩
    rw [← hR]
    have HY := Lib.hid (show (∃ i, i < ws.length ∧ gi ws i ≤ W) → R = [] from fun ⟨i, hi, h⟩ => by rw [hR, fpR, if_pos (any_yes hi h)])
    have HNO := Lib.hid (show (∀ i, i < ws.length → ¬ gi ws i ≤ W) → R = [b] from fun h => by rw [hR, fpR, any_no h]; simp)
    have HH := Lib.hid h
    have HB := Lib.hid hy
    have e0 : ((b.length : Int) == (ws.length : Int)) = true := beq_t (by omega)
    have hbl : b.length ≤ 6 := by omega
    clear hR hl h hy
    go_enter Try.func108, Try.ntmps108
    go_wp2
    go_loop [8] (fun i => ∃ k : Nat, k ≤ ws.length ∧ i = .int .i64 k ∧ Hid (∀ j, j < k → ¬ gi ws j ≤ W)) (fun i => ws.length - (intOf i).toNat)
    case atStart => exact ⟨0, Nat.zero_le _, rfl, fun j hj => absurd hj (by omega)⟩
    case round =>
      obtain ⟨k, hk, rfl, HK⟩ := hrel
      by_cases hlt : k < ws.length
      rotate_left
      · have hnk : ¬ (k : Int) < (ws.length : Int) := by omega
        have HE := Lib.hid (HNO.out fun i hi => by have := HK.out i (by omega); omega)
        go_wp2_with fail
        refine (copyIntsF_any _ _ _ b w HB.out hh2 (by omega)).mono ?_
        rintro e w2 ⟨v2, rfl, ho2, b2⟩
        obtain ⟨A2, c2, rfl, hc2, hm2⟩ := ho2.form
        have HO := Lib.hid (OwnR.single (tS := 22) ho2 b2.size)
        have HB2 := Lib.hid (b2.alloc (Nat.le_trans (Nat.le_refl _) b2.size) (.cells #[.slice A2 b.length c2] 22))
        clear ho2 b2
        go_wp2
        go_ret
        refine ⟨_, rfl, ?_, HB2.out⟩
        rw [HE.out]
        simpa using HO.out
      obtain ⟨ba, oa, hA, _, _, cb, _⟩ := HH.out.cell (k := k) hlt
      subst hA
      have k0 : (0 : Int) ≤ (k : Int) := by omega
      have k1 : (k : Int) < (ws.length : Int) := by omega
      have HYk := Lib.hid (fun h => HY.out ⟨k, hlt, h⟩)
      have HS := Lib.hid (show ¬ gi ws k ≤ W → ∀ j, j < k + 1 → ¬ gi ws j ≤ W from fun hy j hj => by
        rcases Nat.lt_or_ge j k with h' | h'
        · exact HK.out j h'
        · obtain rfl : j = k := by omega
          exact hy)
      obtain ⟨x, hx⟩ : ∃ x, x = gi ws k := ⟨_, rfl⟩
      rw [← hx] at cb HYk HS
      clear hx
      by_cases y1 : x ≤ W
      · have HE := Lib.hid (HYk.out y1)
        have HO := Lib.hid (OwnR.empty w w.heap.size 22 3 (Nat.le_refl _))
        have HB2 := Lib.hid ((Below.refl w.heap.size w).alloc (Nat.le_refl _) (.cells #[] 22))
        clear HYk HS
        go_wp2
        go_ret
        refine ⟨_, rfl, ?_, HB2.out⟩
        rw [HE.out]
        simpa using HO.out
      have HS2 := Lib.hid (HS.out y1)
      clear HYk HS
      go_wp2
      go_round
      case rel => exact ⟨k + 1, hlt, by go_num, HS2.out⟩
      case measure => simp [intOf]; omega
  | succ r ih =>
    intro l1 h1 l2 h2 W v u b w h hh1 hy hh2 h0 h24 hl
    obtain ⟨A, c, rfl, hc, hm⟩ := h.form
    obtain ⟨B, d, rfl, hd, hm2⟩ := hy.form
    have hbl : b.length < ws.length := by omega
    obtain ⟨ba, oa, hA, hba1, hba2, cb, _⟩ := h.cell (k := b.length) hbl
    subst hA
    have hg := hw b.length hbl
    have HQ24 := Lib.hid (quo_24 h0 h24 hg.1)
    have HQOK := Lib.hid (fun n : Nat => quo_ok (W := W) (g := gi ws b.length) (n := n) h0 hg.1)
    obtain ⟨f, hf⟩ : ∃ f : Nat → List (List Int), f = fun n : Nat => fpR ws r (W - (n : Int) * gi ws b.length) (b ++ [(n : Int)]) := ⟨_, rfl⟩
    obtain ⟨R, hR⟩ : ∃ R, R = fpR ws (r + 1) W b := ⟨_, rfl⟩
    rw [← hR]
    have HRL := Lib.hid (show R.length ≤ 244140625 by
      rw [hR]
      have h1 := fpR_len (fun i hi => (hw i hi).1) (r + 1) W b h0 h24 hl
      have h2 : 25 ^ (r + 1) ≤ 25 ^ 6 := Nat.pow_le_pow_right (by omega) (by omega)
      omega)
    have HR := Lib.hid (show R = fpD f (W / gi ws b.length + 1).toNat by rw [hR, fpR, hf])
    have HF := Lib.hid (fun n => congrFun hf n)
    obtain ⟨g, hge⟩ : ∃ g, g = gi ws b.length := ⟨_, rfl⟩
    rw [← hge] at cb hg HQ24 HQOK HR
    have HFg := Lib.hid (show ∀ n : Nat, f n = fpR ws r (W - n * g) (b ++ [(n : Int)]) from fun n => by rw [hge]; exact HF.out n)
    obtain ⟨y, hye⟩ : ∃ y, y = W / g := ⟨_, rfl⟩
    have hquo : W.tdiv g = y := by rw [hye]; exact Int.tdiv_eq_ediv_of_nonneg h0
    rw [← hye] at HQ24 HQOK HR
    have hy24 := HQ24.out
    have gy : IntKind.i64.wrap y = y := IntWalk.i64_in _ (by omega)
    have p0 : ¬ g = 0 := by omega
    have p1 : (g == 0) = false := beq_f p0
    have e0 : ((b.length : Int) == (ws.length : Int)) = false := beq_f (by omega)
    have at0 : (0 : Int) ≤ (b.length : Int) := by omega
    have at1 : (b.length : Int) < (ws.length : Int) := by omega
    have HH := Lib.hid h
    have HBB := Lib.hid hy
    have HL := Lib.hid hl
    have b1 : Below w.heap.size w (w.alloc (.cells #[] 22)) := (Below.refl _ _).alloc (Nat.le_refl _) _
    have cbw := keepB b1 cb
    have HO0 := Lib.hid (show OwnR (w.alloc (.cells #[] 22)) w.heap.size (w.alloc (.cells #[] 22)).heap.size 22 3 (.slice (some ⟨w.heap.size, 0, none⟩) 0 0) [] by simpa using OwnR.empty w w.heap.size 22 3 (Nat.le_refl _))
    have HB0 := Lib.hid b1
    clear hR hf hge hye h hy hl b1 HF
    go_enter Try.func108, Try.ntmps108
    go_wp2
    clear cbw
    go_loopw [9, 10] (fun o i wr => ∃ (m : Nat) (p : Int) (L : List (List Int)), p = (m : Int) - 1 ∧ m ≤ (y + 1).toNat ∧ i = .int .i64 p ∧ Hid (L ++ fpD f m = R) ∧ Hid (OwnR wr w.heap.size wr.heap.size 22 3 o L) ∧ Hid (Below w.heap.size w wr) ∧ w.heap.size ≤ wr.heap.size) (fun _ i _ => (intOf i + 1).toNat)
    case atStart => exact ⟨(y + 1).toNat, y, [], by omega, Nat.le_refl _, rfl, by show _ = _; rw [HR.out]; rfl, HO0.out, HB0.out, by simp⟩
    case round =>
      obtain ⟨m, p, L, hp, hmy, rfl, HL2, HO, HB, hzr⟩ := hrel
      clear HO0 HB0 HR
      obtain ⟨Ao, co, rfl, hco, hco2⟩ := HO.out.form
      by_cases hlt : 0 ≤ p
      rotate_left
      · have hnp : ¬ p ≥ 0 := hlt
        have HE := Lib.hid (show L = R by
          have hm0 : m = 0 := by omega
          have h9 := HL2.out
          rw [hm0] at h9
          simpa [fpD] using h9)
        clear HL2
        go_wp2
        go_ret
        refine ⟨_, rfl, ?_, HB.out⟩
        rw [← HE.out]
        exact HO.out
      have hge : p ≥ 0 := hlt
      obtain ⟨q, rfl⟩ := Int.eq_ofNat_of_zero_le hlt
      obtain rfl : m = q + 1 := by omega
      clear hp hlt
      have hq2 := HQOK.out q (by omega)
      have hq24 : (q : Int) ≤ 24 := by omega
      obtain ⟨pg, hpg⟩ : ∃ x, x = (q : Int) * g := ⟨_, rfl⟩
      rw [← hpg] at hq2
      obtain ⟨bb, hbb⟩ : ∃ l, l = b ++ [(q : Int)] := ⟨_, rfl⟩
      have HBE := Lib.hid hbb
      have HBE2 := Lib.hid (show bb.length = b.length + 1 by rw [hbb]; simp)
      have HFq := Lib.hid (show fpR ws r (W - pg) bb = f q by rw [HFg.out, hpg, hbb])
      clear hbb
      have hpg2 : (q : Int) * g = pg := hpg.symm
      have g1 : IntKind.i64.wrap pg = pg := IntWalk.i64_in _ (by omega)
      obtain ⟨W2, hW2⟩ : ∃ x, x = W - pg := ⟨_, rfl⟩
      have hW2' : W - pg = W2 := hW2.symm
      have g2 : IntKind.i64.wrap W2 = W2 := IntWalk.i64_in _ (by omega)
      rw [hW2'] at HFq hq2
      have HD := Lib.hid (show (L ++ f q) ++ fpD f q = R by rw [List.append_assoc]; exact HL2.out)
      have HLL := Lib.hid (show L.length + (f q).length ≤ 244140625 by
        have h1 := HRL.out
        rw [← HD.out] at h1
        simp only [List.length_append] at h1
        omega)
      have hqI : I64 (q : Int) := ⟨by omega, by omega⟩
      have cbr := (HB.out.cell (show ba < w.heap.size by omega)).trans cb
      clear hpg hW2 HL2
      go_wp2
      refine wp_region_held_drew (S := fun w' => w'.cell? ⟨ba, oa + b.length, none⟩ = some (.int .i64 g)) (by kernel_rfl) ?_ (fun hHeld => ?_)
      · (first | (try dsimp only); go_keep | (first | exact keepB bx5 (by assumption) | exact keepB bx4 (by assumption) | exact keepB bx3 (by assumption) | exact keepB bx2 (by assumption) | exact keepB bx1 (by assumption) | exact keepO bo5 (by first | (simp; done) | (simp; omega)) (by assumption) | exact keepO bo4 (by first | (simp; done) | (simp; omega)) (by assumption) | exact keepO bo3 (by first | (simp; done) | (simp; omega)) (by assumption) | exact keepO bo2 (by first | (simp; done) | (simp; omega)) (by assumption) | exact keepO bo1 (by first | (simp; done) | (simp; omega)) (by assumption) | exact keepW bg2 (by first | (simp; done) | (simp; omega)) (by assumption) | exact keepW bg1 (by first | (simp; done) | (simp; omega)) (by assumption)))
      refine wpAnyH_take (i := 0) (oi := ⟨some 44, _, _, _, _, _⟩) (v := _) rfl (by kernel_rfl) (by kernel_rfl) (by kernel_rfl) (fun _ _ _ h => h) (Or.inl ⟨by kernel_rfl, by intro w hSw; (try dsimp only at hSw); go_simp; try with_reducible rfl⟩) (by assumption) ?_
      simp only [Act.put, List.setIfInBounds_toArray, List.set_cons_zero, List.set_cons_succ]
      refine wpAnyH_take (i := 1) (oi := ⟨some 45, _, _, _, _, _⟩) (v := _) rfl (by kernel_rfl) (by kernel_rfl) (by kernel_rfl) (fun _ _ _ h => h) (Or.inl ⟨by kernel_rfl, by intro w hSw; (try dsimp only at hSw); go_simp; try with_reducible rfl⟩) (by assumption) ?_
      simp only [Act.put, List.setIfInBounds_toArray, List.set_cons_zero, List.set_cons_succ]
      refine wpAnyH_take (i := 2) (oi := ⟨some 46, _, _, _, _, _⟩) (v := _) rfl (by kernel_rfl) (by kernel_rfl) (by kernel_rfl) (fun _ _ _ h => h) (Or.inl ⟨by kernel_rfl, by intro w hSw; (try dsimp only at hSw); go_simp; try with_reducible rfl⟩) (by assumption) ?_
      simp only [Act.put, List.setIfInBounds_toArray, List.set_cons_zero, List.set_cons_succ]
      refine wpAnyH_take (i := 3) (oi := ⟨some 47, _, _, _, _, _⟩) (v := _) rfl (by kernel_rfl) (by kernel_rfl) (by kernel_rfl) (fun _ _ _ h => h) (Or.inl ⟨by kernel_rfl, by intro w hSw; (try dsimp only at hSw); go_simp; try with_reducible rfl⟩) (by assumption) ?_
      simp only [Act.put, List.setIfInBounds_toArray, List.set_cons_zero, List.set_cons_succ]
      refine wpAnyH_take (i := 4) (oi := ⟨some 48, _, _, _, _, _⟩) (v := _) rfl (by kernel_rfl) (by kernel_rfl) (by kernel_rfl) (fun _ _ _ h => h) (Or.inl ⟨by kernel_rfl, by intro w hSw; (try dsimp only at hSw); go_simp; try with_reducible rfl⟩) (by assumption) ?_
      simp only [Act.put, List.setIfInBounds_toArray, List.set_cons_zero, List.set_cons_succ]
      refine wpAnyH_take (i := 5) (oi := ⟨some 49, _, _, _, _, _⟩) (v := _) rfl (by kernel_rfl) (by kernel_rfl) (by kernel_rfl) (fun _ _ _ h => h) (Or.inl ⟨by kernel_rfl, by intro w hSw; (try dsimp only at hSw); go_simp; try with_reducible rfl⟩) (by assumption) ?_
      simp only [Act.put, List.setIfInBounds_toArray, List.set_cons_zero, List.set_cons_succ]
      refine wpAnyH_take (i := 6) (oi := ⟨some 50, _, _, _, _, _⟩) (v := _) rfl (by kernel_rfl) (by kernel_rfl) (by kernel_rfl) (fun _ _ _ h => h) (Or.inl ⟨by kernel_rfl, by intro w hSw; (try dsimp only at hSw); go_simp; try with_reducible rfl⟩) (by assumption) ?_
      simp only [Act.put, List.setIfInBounds_toArray, List.set_cons_zero, List.set_cons_succ]
      refine wpAnyH_take (i := 7) (oi := ⟨some 51, _, _, _, _, _⟩) (v := _) rfl (by kernel_rfl) (by kernel_rfl) (by kernel_rfl) (fun _ _ _ h => h) (Or.inl ⟨by kernel_rfl, by intro w hSw; (try dsimp only at hSw); go_simp; try with_reducible rfl⟩) (by assumption) ?_
      simp only [Act.put, List.setIfInBounds_toArray, List.set_cons_zero, List.set_cons_succ]
      refine wpAnyH_take (i := 8) (oi := ⟨some 52, _, _, _, _, _⟩) (v := _) rfl (by kernel_rfl) (by kernel_rfl) (by kernel_rfl) (fun _ _ _ h => h) (Or.inl ⟨by kernel_rfl, by intro w hSw; (try dsimp only at hSw); go_simp; try with_reducible rfl⟩) (by assumption) ?_
      simp only [Act.put, List.setIfInBounds_toArray, List.set_cons_zero, List.set_cons_succ]
      refine wpAnyH_take (i := 9) (oi := ⟨some 53, _, _, _, _, _⟩) (v := _) rfl (by kernel_rfl) (by kernel_rfl) (by kernel_rfl) (fun _ _ _ h => h) (Or.inl ⟨by kernel_rfl, by intro w hSw; (try dsimp only at hSw); go_simp; try with_reducible rfl⟩) (by assumption) ?_
      simp only [Act.put, List.setIfInBounds_toArray, List.set_cons_zero, List.set_cons_succ]
      refine wpAnyH_take (i := 10) (oi := ⟨some 54, _, _, _, _, _⟩) (v := _) rfl (by kernel_rfl) (by kernel_rfl) (by kernel_rfl) (fun _ _ _ h => h) (Or.inl ⟨by kernel_rfl, by intro w hSw; (try dsimp only at hSw); go_simp; try with_reducible rfl⟩) (by assumption) ?_
      simp only [Act.put, List.setIfInBounds_toArray, List.set_cons_zero, List.set_cons_succ]
      refine wpAnyH_take (i := 12) (oi := ⟨some 56, _, _, _, _, _⟩) (v := _) rfl (by kernel_rfl) (by kernel_rfl) (by kernel_rfl) (fun _ _ _ h => h) (Or.inl ⟨by kernel_rfl, by intro w hSw; (try dsimp only at hSw); go_simp; try with_reducible rfl⟩) (by assumption) ?_
      simp only [Act.put, List.setIfInBounds_toArray, List.set_cons_zero, List.set_cons_succ]
      refine wpAnyH_ready (rs := [11, 13]) (by kernel_rfl) (by simp) (AllReadyH.cons (o := ⟨some 55, _, _, _, _, _⟩) rfl (fun K hK => ?_) (AllReadyH.cons (o := ⟨some 57, _, _, _, _, _⟩) rfl (fun K hK => ?_) (AllReadyH.nil)))
      focus
        go_simp
        go_at_call 89
        obtain ⟨wq, hwq⟩ : ∃ wq, wq = wr.drew := ⟨_, rfl⟩
        have bq : Below wr.heap.size wr wq := by rw [hwq]; exact (Below.refl _ _).drew
        rw [← hwq]
        clear hwq
        refine (copyIntsF_any _ _ _ b wq (HBB.out.below (HB.out.trans (bq.mono hzr)) hh2) (by have := bq.size; omega) (by omega)).mono ?_
        rintro e x1 ⟨v1, rfl, ho1, b1⟩
        obtain ⟨A1, c1, rfl, hc1, hm1⟩ := ho1.form
        have bx1 := bq.trans (b1.mono bq.size)
        have cx1 := keepB bx1 cbr
        go_wp2_with fail
        refine hK.out _ _ ?_ (fun hHeld2 => ?_)
        · (first | (try dsimp only); go_keep | (first | exact keepB bx5 (by assumption) | exact keepB bx4 (by assumption) | exact keepB bx3 (by assumption) | exact keepB bx2 (by assumption) | exact keepB bx1 (by assumption) | exact keepO bo5 (by first | (simp; done) | (simp; omega)) (by assumption) | exact keepO bo4 (by first | (simp; done) | (simp; omega)) (by assumption) | exact keepO bo3 (by first | (simp; done) | (simp; omega)) (by assumption) | exact keepO bo2 (by first | (simp; done) | (simp; omega)) (by assumption) | exact keepO bo1 (by first | (simp; done) | (simp; omega)) (by assumption) | exact keepW bg2 (by first | (simp; done) | (simp; omega)) (by assumption) | exact keepW bg1 (by first | (simp; done) | (simp; omega)) (by assumption)))
        clear hK K hHeld
        have hHeld := hHeld2
        clear hHeld2
        try simp only [Act.put, List.setIfInBounds_toArray, List.set_cons_zero, List.set_cons_succ]
        refine wpAnyH_ready (rs := [13]) (by kernel_rfl) (by simp) ?_
        refine AllReadyH.cons (o := ⟨some 57, _, _, _, _, _⟩) rfl (fun K hK => ?_) AllReadyH.nil
        go_simp
        refine hK.out _ _ ?_ (fun hHeld2 => ?_)
        · (first | (try dsimp only); go_keep | (first | exact keepB bx5 (by assumption) | exact keepB bx4 (by assumption) | exact keepB bx3 (by assumption) | exact keepB bx2 (by assumption) | exact keepB bx1 (by assumption) | exact keepO bo5 (by first | (simp; done) | (simp; omega)) (by assumption) | exact keepO bo4 (by first | (simp; done) | (simp; omega)) (by assumption) | exact keepO bo3 (by first | (simp; done) | (simp; omega)) (by assumption) | exact keepO bo2 (by first | (simp; done) | (simp; omega)) (by assumption) | exact keepO bo1 (by first | (simp; done) | (simp; omega)) (by assumption) | exact keepW bg2 (by first | (simp; done) | (simp; omega)) (by assumption) | exact keepW bg1 (by first | (simp; done) | (simp; omega)) (by assumption)))
        clear hK K hHeld
        have hHeld := hHeld2
        clear hHeld2
        try simp only [Act.put, List.setIfInBounds_toArray, List.set_cons_zero, List.set_cons_succ]
        refine wpAnyH_ready (rs := [14]) (by kernel_rfl) (by simp) ?_
        refine AllReadyH.cons (o := ⟨some 58, _, _, _, _, _⟩) rfl (fun K hK => ?_) AllReadyH.nil
        have os : Ints (x1.alloc (.cells #[.int .i64 (q : Int)] 3)) x1.heap.size (x1.heap.size + 1) (.slice (some ⟨x1.heap.size, 0, none⟩) 1 1) [(q : Int)] := (OwnI.ints (lit_own x1 3 [(q : Int)] (by simp) (fun z hz => by rw [List.mem_singleton.1 hz]; exact hqI))).wide (Nat.le_refl _) (by simp)
        refine step_appendIs SlI (x1.alloc (.cells #[.int .i64 (q : Int)] 3)) rfl (.tmp 55) (.tmp 57) rfl x1.heap.size (x1.heap.size + 1) _ wq.heap.size _ b [(q : Int)] rfl rfl (ho1.alloc _) os (by simp; omega) (by have := b1.size; simp; omega) ?_
        intro v6 w6 ho6 hg6
        rw [← HBE.out] at ho6
        have bx6 := (bx1.trans (((Below.refl x1.heap.size x1).alloc (Nat.le_refl _) _).mono bx1.size)).trans (hg6.below.mono bq.size)
        have cx6 := keepB bx6 cbr
        obtain ⟨A6, c6, rfl, hc6, hm6⟩ := ho6.form
        refine hK.out _ _ ?_ (fun hHeld2 => ?_)
        · (first | (try dsimp only); go_keep | (first | exact keepB bx5 (by assumption) | exact keepB bx4 (by assumption) | exact keepB bx3 (by assumption) | exact keepB bx2 (by assumption) | exact keepB bx1 (by assumption) | exact keepO bo5 (by first | (simp; done) | (simp; omega)) (by assumption) | exact keepO bo4 (by first | (simp; done) | (simp; omega)) (by assumption) | exact keepO bo3 (by first | (simp; done) | (simp; omega)) (by assumption) | exact keepO bo2 (by first | (simp; done) | (simp; omega)) (by assumption) | exact keepO bo1 (by first | (simp; done) | (simp; omega)) (by assumption) | exact keepW bg2 (by first | (simp; done) | (simp; omega)) (by assumption) | exact keepW bg1 (by first | (simp; done) | (simp; omega)) (by assumption)))
        clear hK K hHeld
        have hHeld := hHeld2
        clear hHeld2
        try simp only [Act.put, List.setIfInBounds_toArray, List.set_cons_zero, List.set_cons_succ]
        refine wpAnyH_ready (rs := [15]) (by kernel_rfl) (by simp) ?_
        refine AllReadyH.cons (o := ⟨some 59, _, _, _, _, _⟩) rfl (fun K hK => ?_) AllReadyH.nil
        go_simp
        go_at_call 108
        refine (ih _ _ _ _ W2 _ _ bb w6 ((HH.out.below HB.out hh1).below (bx6.mono hzr) hh1) (by have := bx6.size; omega) ho6.ints (Nat.le_refl _) (by omega) (by omega) (by have := HL.out; have := HBE2.out; omega)).mono ?_
        rw [HFq.out]
        rintro e x7 ⟨v7, rfl, ho7, b7⟩
        obtain ⟨A7, c7, rfl, hc7, hm7⟩ := ho7.form
        have hz6 := bx6.size
        replace bx6 := bx6.trans (b7.mono hz6)
        have cx7 := keepB bx6 cbr
        go_wp2_with fail
        refine hK.out _ _ ?_ (fun hHeld2 => ?_)
        · (first | (try dsimp only); go_keep | (first | exact keepB bx5 (by assumption) | exact keepB bx4 (by assumption) | exact keepB bx3 (by assumption) | exact keepB bx2 (by assumption) | exact keepB bx1 (by assumption) | exact keepO bo5 (by first | (simp; done) | (simp; omega)) (by assumption) | exact keepO bo4 (by first | (simp; done) | (simp; omega)) (by assumption) | exact keepO bo3 (by first | (simp; done) | (simp; omega)) (by assumption) | exact keepO bo2 (by first | (simp; done) | (simp; omega)) (by assumption) | exact keepO bo1 (by first | (simp; done) | (simp; omega)) (by assumption) | exact keepW bg2 (by first | (simp; done) | (simp; omega)) (by assumption) | exact keepW bg1 (by first | (simp; done) | (simp; omega)) (by assumption)))
        clear hK K hHeld
        have hHeld := hHeld2
        clear hHeld2
        try simp only [Act.put, List.setIfInBounds_toArray, List.set_cons_zero, List.set_cons_succ]
        refine wpAnyH_ready (rs := [16]) (by kernel_rfl) (by simp) ?_
        refine AllReadyH.cons (o := ⟨some 60, _, _, _, _, _⟩) rfl (fun K hK => ?_) AllReadyH.nil
        refine step_appendRs SlR (by decide) x7 rfl (.tmp 44) (.tmp 59) rfl w.heap.size w6.heap.size _ _ L (f q) rfl rfl ((HO.out.kept (.of_below bx6 (Nat.le_refl _))).wide (Nat.le_refl _) hz6) ho7 (by have := HLL.out; omega) (by omega) (by have := b7.size; omega) ?_
        intro v8 w8 ho8 hg8
        have cx8 := (hg8.below.cell (show ba < w.heap.size by omega)).trans cx7
        refine hK.out _ _ ?_ (fun hHeld2 => ?_)
        · (first | (try dsimp only); go_keep | (first | exact keepB bx5 (by assumption) | exact keepB bx4 (by assumption) | exact keepB bx3 (by assumption) | exact keepB bx2 (by assumption) | exact keepB bx1 (by assumption) | exact keepO bo5 (by first | (simp; done) | (simp; omega)) (by assumption) | exact keepO bo4 (by first | (simp; done) | (simp; omega)) (by assumption) | exact keepO bo3 (by first | (simp; done) | (simp; omega)) (by assumption) | exact keepO bo2 (by first | (simp; done) | (simp; omega)) (by assumption) | exact keepO bo1 (by first | (simp; done) | (simp; omega)) (by assumption) | exact keepW bg2 (by first | (simp; done) | (simp; omega)) (by assumption) | exact keepW bg1 (by first | (simp; done) | (simp; omega)) (by assumption)))
        clear hK K hHeld
        have hHeld := hHeld2
        clear hHeld2
        try simp only [Act.put, List.setIfInBounds_toArray, List.set_cons_zero, List.set_cons_succ]
        refine wpAnyH_take (i := 17) (oi := ⟨some 9, _, _, _, _, _⟩) (v := _) rfl (by kernel_rfl) (by kernel_rfl) (by kernel_rfl) (fun _ _ _ h => h) (Or.inl ⟨by kernel_rfl, by intro w hSw; (try dsimp only at hSw); go_simp; try with_reducible rfl⟩) (by assumption) ?_
        simp only [Act.put, List.setIfInBounds_toArray, List.set_cons_zero, List.set_cons_succ]
        refine wpAnyH_done (by kernel_rfl) ?_ _
      rotate_left 1
      focus
        go_simp
        refine hK.out _ _ ?_ (fun hHeld2 => ?_)
        · (first | (try dsimp only); go_keep | (first | exact keepB bx5 (by assumption) | exact keepB bx4 (by assumption) | exact keepB bx3 (by assumption) | exact keepB bx2 (by assumption) | exact keepB bx1 (by assumption) | exact keepO bo5 (by first | (simp; done) | (simp; omega)) (by assumption) | exact keepO bo4 (by first | (simp; done) | (simp; omega)) (by assumption) | exact keepO bo3 (by first | (simp; done) | (simp; omega)) (by assumption) | exact keepO bo2 (by first | (simp; done) | (simp; omega)) (by assumption) | exact keepO bo1 (by first | (simp; done) | (simp; omega)) (by assumption) | exact keepW bg2 (by first | (simp; done) | (simp; omega)) (by assumption) | exact keepW bg1 (by first | (simp; done) | (simp; omega)) (by assumption)))
        clear hK K hHeld
        have hHeld := hHeld2
        clear hHeld2
        try simp only [Act.put, List.setIfInBounds_toArray, List.set_cons_zero, List.set_cons_succ]
        refine wpAnyH_ready (rs := [11]) (by kernel_rfl) (by simp) ?_
        refine AllReadyH.cons (o := ⟨some 55, _, _, _, _, _⟩) rfl (fun K hK => ?_) AllReadyH.nil
        go_simp
        go_at_call 89
        obtain ⟨wq, hwq⟩ : ∃ wq, wq = (wr.alloc (.cells #[.int .i64 (q : Int)] 3)).drew := ⟨_, rfl⟩
        have bq : Below wr.heap.size wr wq := by rw [hwq]; exact ((Below.refl _ _).alloc (Nat.le_refl _) _).drew
        rw [← hwq]
        have oq : Ints wq wr.heap.size wq.heap.size (.slice (some ⟨wr.heap.size, 0, none⟩) 1 1) [(q : Int)] := by rw [hwq]; exact ((lit_own wr 3 [(q : Int)] (by simp) (fun z hz => by rw [List.mem_singleton.1 hz]; exact hqI)).drew).ints
        clear hwq
        refine (copyIntsF_any _ _ _ b wq (HBB.out.below (HB.out.trans (bq.mono hzr)) hh2) (by have := bq.size; omega) (by omega)).mono ?_
        rintro e x1 ⟨v1, rfl, ho1, b1⟩
        obtain ⟨A1, c1, rfl, hc1, hm1⟩ := ho1.form
        have bx1 := bq.trans (b1.mono bq.size)
        have cx1 := keepB bx1 cbr
        go_wp2_with fail
        refine hK.out _ _ ?_ (fun hHeld2 => ?_)
        · (first | (try dsimp only); go_keep | (first | exact keepB bx5 (by assumption) | exact keepB bx4 (by assumption) | exact keepB bx3 (by assumption) | exact keepB bx2 (by assumption) | exact keepB bx1 (by assumption) | exact keepO bo5 (by first | (simp; done) | (simp; omega)) (by assumption) | exact keepO bo4 (by first | (simp; done) | (simp; omega)) (by assumption) | exact keepO bo3 (by first | (simp; done) | (simp; omega)) (by assumption) | exact keepO bo2 (by first | (simp; done) | (simp; omega)) (by assumption) | exact keepO bo1 (by first | (simp; done) | (simp; omega)) (by assumption) | exact keepW bg2 (by first | (simp; done) | (simp; omega)) (by assumption) | exact keepW bg1 (by first | (simp; done) | (simp; omega)) (by assumption)))
        clear hK K hHeld
        have hHeld := hHeld2
        clear hHeld2
        try simp only [Act.put, List.setIfInBounds_toArray, List.set_cons_zero, List.set_cons_succ]
        refine wpAnyH_ready (rs := [14]) (by kernel_rfl) (by simp) ?_
        refine AllReadyH.cons (o := ⟨some 58, _, _, _, _, _⟩) rfl (fun K hK => ?_) AllReadyH.nil
        refine step_appendIs SlI x1 rfl (.tmp 55) (.tmp 57) rfl wr.heap.size wq.heap.size _ wq.heap.size _ b [(q : Int)] rfl rfl ho1 (oq.below b1 (Nat.le_refl _)) (by simp; omega) (by exact b1.size) ?_
        intro v6 w6 ho6 hg6
        rw [← HBE.out] at ho6
        have bx6 := bx1.trans (hg6.below.mono bq.size)
        have cx6 := keepB bx6 cbr
        obtain ⟨A6, c6, rfl, hc6, hm6⟩ := ho6.form
        refine hK.out _ _ ?_ (fun hHeld2 => ?_)
        · (first | (try dsimp only); go_keep | (first | exact keepB bx5 (by assumption) | exact keepB bx4 (by assumption) | exact keepB bx3 (by assumption) | exact keepB bx2 (by assumption) | exact keepB bx1 (by assumption) | exact keepO bo5 (by first | (simp; done) | (simp; omega)) (by assumption) | exact keepO bo4 (by first | (simp; done) | (simp; omega)) (by assumption) | exact keepO bo3 (by first | (simp; done) | (simp; omega)) (by assumption) | exact keepO bo2 (by first | (simp; done) | (simp; omega)) (by assumption) | exact keepO bo1 (by first | (simp; done) | (simp; omega)) (by assumption) | exact keepW bg2 (by first | (simp; done) | (simp; omega)) (by assumption) | exact keepW bg1 (by first | (simp; done) | (simp; omega)) (by assumption)))
        clear hK K hHeld
        have hHeld := hHeld2
        clear hHeld2
        try simp only [Act.put, List.setIfInBounds_toArray, List.set_cons_zero, List.set_cons_succ]
        refine wpAnyH_ready (rs := [15]) (by kernel_rfl) (by simp) ?_
        refine AllReadyH.cons (o := ⟨some 59, _, _, _, _, _⟩) rfl (fun K hK => ?_) AllReadyH.nil
        go_simp
        go_at_call 108
        refine (ih _ _ _ _ W2 _ _ bb w6 ((HH.out.below HB.out hh1).below (bx6.mono hzr) hh1) (by have := bx6.size; omega) ho6.ints (Nat.le_refl _) (by omega) (by omega) (by have := HL.out; have := HBE2.out; omega)).mono ?_
        rw [HFq.out]
        rintro e x7 ⟨v7, rfl, ho7, b7⟩
        obtain ⟨A7, c7, rfl, hc7, hm7⟩ := ho7.form
        have hz6 := bx6.size
        replace bx6 := bx6.trans (b7.mono hz6)
        have cx7 := keepB bx6 cbr
        go_wp2_with fail
        refine hK.out _ _ ?_ (fun hHeld2 => ?_)
        · (first | (try dsimp only); go_keep | (first | exact keepB bx5 (by assumption) | exact keepB bx4 (by assumption) | exact keepB bx3 (by assumption) | exact keepB bx2 (by assumption) | exact keepB bx1 (by assumption) | exact keepO bo5 (by first | (simp; done) | (simp; omega)) (by assumption) | exact keepO bo4 (by first | (simp; done) | (simp; omega)) (by assumption) | exact keepO bo3 (by first | (simp; done) | (simp; omega)) (by assumption) | exact keepO bo2 (by first | (simp; done) | (simp; omega)) (by assumption) | exact keepO bo1 (by first | (simp; done) | (simp; omega)) (by assumption) | exact keepW bg2 (by first | (simp; done) | (simp; omega)) (by assumption) | exact keepW bg1 (by first | (simp; done) | (simp; omega)) (by assumption)))
        clear hK K hHeld
        have hHeld := hHeld2
        clear hHeld2
        try simp only [Act.put, List.setIfInBounds_toArray, List.set_cons_zero, List.set_cons_succ]
        refine wpAnyH_ready (rs := [16]) (by kernel_rfl) (by simp) ?_
        refine AllReadyH.cons (o := ⟨some 60, _, _, _, _, _⟩) rfl (fun K hK => ?_) AllReadyH.nil
        refine step_appendRs SlR (by decide) x7 rfl (.tmp 44) (.tmp 59) rfl w.heap.size w6.heap.size _ _ L (f q) rfl rfl ((HO.out.kept (.of_below bx6 (Nat.le_refl _))).wide (Nat.le_refl _) hz6) ho7 (by have := HLL.out; omega) (by omega) (by have := b7.size; omega) ?_
        intro v8 w8 ho8 hg8
        have cx8 := (hg8.below.cell (show ba < w.heap.size by omega)).trans cx7
        refine hK.out _ _ ?_ (fun hHeld2 => ?_)
        · (first | (try dsimp only); go_keep | (first | exact keepB bx5 (by assumption) | exact keepB bx4 (by assumption) | exact keepB bx3 (by assumption) | exact keepB bx2 (by assumption) | exact keepB bx1 (by assumption) | exact keepO bo5 (by first | (simp; done) | (simp; omega)) (by assumption) | exact keepO bo4 (by first | (simp; done) | (simp; omega)) (by assumption) | exact keepO bo3 (by first | (simp; done) | (simp; omega)) (by assumption) | exact keepO bo2 (by first | (simp; done) | (simp; omega)) (by assumption) | exact keepO bo1 (by first | (simp; done) | (simp; omega)) (by assumption) | exact keepW bg2 (by first | (simp; done) | (simp; omega)) (by assumption) | exact keepW bg1 (by first | (simp; done) | (simp; omega)) (by assumption)))
        clear hK K hHeld
        have hHeld := hHeld2
        clear hHeld2
        try simp only [Act.put, List.setIfInBounds_toArray, List.set_cons_zero, List.set_cons_succ]
        refine wpAnyH_take (i := 17) (oi := ⟨some 9, _, _, _, _, _⟩) (v := _) rfl (by kernel_rfl) (by kernel_rfl) (by kernel_rfl) (fun _ _ _ h => h) (Or.inl ⟨by kernel_rfl, by intro w hSw; (try dsimp only at hSw); go_simp; try with_reducible rfl⟩) (by assumption) ?_
        simp only [Act.put, List.setIfInBounds_toArray, List.set_cons_zero, List.set_cons_succ]
        refine wpAnyH_done (by kernel_rfl) ?_ _
      rotate_left 1
      all_goals clear hHeld
      all_goals have HB8 := Lib.hid ((HB.out.trans (bx6.mono (by omega))).trans (hg8.below.mono (Nat.le_refl _)))
      all_goals have HO8 := Lib.hid ho8
      all_goals clear ho8 hg8 bx6
      all_goals go_wp2
      all_goals go_roundw
      case rel => exact ⟨q, (q : Int) - 1, L ++ f q, rfl, by omega, rfl, HD.out, HO8.out, HB8.out, by have := HB8.out.size; omega⟩
      case measure => simp [intOf]
      case rel => exact ⟨q, (q : Int) - 1, L ++ f q, rfl, by omega, rfl, HD.out, HO8.out, HB8.out, by have := HB8.out.size; omega⟩
      case measure => simp [intOf]
end Go.Proofs.Yteckjiaaikdghaa

namespace Go.Proofs.Yteckjiaaikdghaa
open Go.RowKit
attribute [local go_sem ↓] Go.wp_at_zero Go.wp_at_succ

theorem sum_pos_ex {c : List Int} (h0 : ∀ i, 0 ≤ gi c i) (hs : ¬ c.sum = 0) : ∃ i, i < c.length ∧ 0 < gi c i := by
  rcases Classical.em (∃ i, i < c.length ∧ 0 < gi c i) with h | h
  · exact h
  · exfalso
    apply hs
    have : ∀ k, k ≤ c.length → sumI c k = 0 := by
      intro k
      induction k with
      | zero => intro _; rfl
      | succ k ih =>
        intro hk
        have h1 := ih (by omega)
        have h2 : ¬ 0 < gi c k := fun hp => h ⟨k, by omega, hp⟩
        have h3 := h0 k
        show sumI c k + gi c k = 0
        omega
    rw [← sumI_all]
    exact this _ (Nat.le_refl _)
theorem lfC_step {c p : List Int} {j : Nat} (hj : j < c.length) : (lfC c p).take (j + 1) = (lfC c p).take j ++ [max 0 (gi c j - gi p j)] := by
  rw [take_gi (by rw [lfC_len]; exact hj), lfC_gi hj]
set_option maxRecDepth 100000 in
set_option maxHeartbeats 4000000 in
theorem sets_any (W : Int) (ws : List Int) (all : List (List Int)) (hv : vWid W ws = true) (ha : AllP W ws all) (hal : all.length ≤ 244140625) : ∀ (m most l1 h1 l2 h2 : Nat) (Wd : Int) (va vc : Value) (c : List Int) (w : World), most < m → most ≤ 100 → IRows w l1 h1 va all → h1 ≤ w.heap.size → Ints w l2 h2 vc c → h2 ≤ w.heap.size → c.length = ws.length → (∀ i, 0 ≤ gi c i) → c.sum ≤ 60 →
    Calls Try.prog 109 #[.int .i64 Wd, va, vc, .int .i64 most] w fun e w' => e = .returned (.int .i64 (min (mS W ws c) (most + 1) : Nat)) ∧ Below w.heap.size w w' := by
  intro m
  induction m with
  | zero => intro most l1 h1 l2 h2 Wd va vc c w hmm; exact absurd hmm (by omega)
  | succ m ih =>
    intro most l1 h1 l2 h2 Wd va vc c w hmm hm100 h hh1 hy hh2 hl h0 h60
    obtain ⟨A, ca, rfl, hca, hma⟩ := h.form
    obtain ⟨B, cb, rfl, hcb, hmb⟩ := hy.form
    have hn6 : c.length ≤ 6 := by have := (vWid_iff.1 hv).2.2.2.1; omega
    have hcr : ∀ i, i < c.length → 0 ≤ gi c i ∧ gi c i ≤ 1000 := fun i hi => by have := (sumG_pos (ys := c) fun i _ => h0 i).2 i hi; exact ⟨h0 i, by omega⟩
    obtain ⟨R, hR⟩ : ∃ R, R = min (mS W ws c) (most + 1) := ⟨_, rfl⟩
    rw [← hR]
    have HR := Lib.hid hR
    have HH := Lib.hid h
    have HY := Lib.hid hy
    have H0 := Lib.hid h0
    have HL := Lib.hid hl
    have HCR := Lib.hid hcr
    have H60 := Lib.hid h60
    clear hR h hy hcr h0 hl h60
    go_enter Try.func109, Try.ntmps109
    go_wp2_with fail
    refine (sTotalG_any _ _ _ c w HY.out (by omega) HCR.out).mono ?_
    rw [sumI_all]
    rintro e x1 ⟨rfl, hx1⟩
    subst hx1
    by_cases hs : c.sum = 0
    · have e0 : (c.sum == 0) = true := beq_t hs
      have HE := Lib.hid (show R = 0 by rw [HR.out, mS_zero hv HL.out H0.out hs]; simp)
      clear hs
      go_wp2
      go_ret
      exact ⟨ret_int (by rw [HE.out]; rfl), Below.refl _ _⟩
    have e0 : (c.sum == 0) = false := beq_f hs
    obtain ⟨i0, hi0, hp0⟩ := sum_pos_ex H0.out hs
    have hm1 := mS_pos hv HL.out H0.out hi0 hp0
    by_cases hz : most = 0
    · subst hz
      have HE := Lib.hid (show R = 1 by rw [HR.out]; omega)
      clear hs hm1 hp0
      go_wp2
      go_ret
      exact ⟨ret_int (by rw [HE.out]; rfl), Below.refl _ _⟩
    have z0 : ((most : Int) == 0) = false := beq_f (by omega)
    have HM1 := Lib.hid hm1
    have HP0 := Lib.hid hp0
    clear hs hm1 hp0
    go_wp2
    go_loop [10] (fun i => ∃ k : Nat, k ≤ i0 ∧ i = .int .i64 k) (fun i => c.length - (intOf i).toNat)
    case atStart => exact ⟨0, Nat.zero_le _, rfl⟩
    case round =>
      obtain ⟨f, hf, rfl⟩ := hrel
      have hfl : f < c.length := by omega
      obtain ⟨b, o, hB, hb1, hb2, cc, _⟩ := HY.out.cell (k := f) hfl
      subst hB
      have f0 : (0 : Int) ≤ (f : Int) := by omega
      have f1 : (f : Int) < (c.length : Int) := by omega
      have hxn := H0.out f
      have HF := Lib.hid (show gi c f = 0 → ¬ f = i0 from fun h e => by have := HP0.out; rw [← e] at this; omega)
      obtain ⟨x, hx⟩ : ∃ x, x = gi c f := ⟨_, rfl⟩
      rw [← hx] at cc hxn HF
      have HX := Lib.hid hx
      clear hx
      by_cases y1 : x = 0
      · have y2 : (x == 0) = true := beq_t y1
        have hne := HF.out y1
        clear HF y1
        go_wp2
        go_round
        case rel => exact ⟨f + 1, by omega, by go_num⟩
        case measure => simp [intOf]; omega
      have y2 : (x == 0) = false := beq_f y1
      have HXP := Lib.hid (show 0 < gi c f by rw [← HX.out]; omega)
      clear HF
      go_wp2
      clear cc y2 y1 hxn
      go_loopw [9, 11, 12, 13] (fun bv i _ _ wr => ∃ (k bb : Nat), k ≤ all.length ∧ i = .int .i64 k ∧ bv = .int .i64 bb ∧ 1 ≤ bb ∧ bb ≤ most + 1 ∧ Hid (bb = sB W ws c all f most k) ∧ Hid (Below w.heap.size w wr) ∧ w.heap.size ≤ wr.heap.size) (fun _ i _ _ _ => all.length - (intOf i).toNat)
      case atStart => exact ⟨0, most + 1, Nat.zero_le _, rfl, by go_num, by omega, Nat.le_refl _, by show _ = _; rw [sB], Below.refl _ _, Nat.le_refl _⟩
      case round =>
        obtain ⟨k, bb, hk, rfl, rfl, hbb1, hbb2, HBB, HB, hzr⟩ := hrel
        obtain ⟨wo, rfl⟩ : ∃ wo : World, wo = wr := ⟨_, rfl⟩
        by_cases hlt : k < all.length
        rotate_left
        · have hnk : ¬ (k : Int) < (all.length : Int) := by omega
          have HE := Lib.hid (show bb = R by
            obtain rfl : k = all.length := by omega
            rw [HBB.out, HR.out]
            exact sB_end hv ha HL.out H0.out hfl HXP.out)
          clear HBB
          go_wp2
          go_ret
          exact ⟨ret_int (by rw [HE.out]), HB.out⟩
        have k0 : (0 : Int) ≤ (k : Int) := by omega
        have k1 : (k : Int) < (all.length : Int) := by omega
        by_cases hb1' : 1 < bb
        rotate_left
        · have n1 : ¬ (1 : Int) < (bb : Int) := by omega
          have n2 : ¬ (bb : Int) > 1 := by omega
          have HE := Lib.hid (show bb = R by
            have h1 := sB_one (most := most) hv ha HL.out H0.out hfl HXP.out hk (by rw [← HBB.out]; omega)
            rw [HBB.out, HR.out]; exact h1)
          clear HBB
          go_wp2
          go_ret
          exact ⟨ret_int (by rw [HE.out]), HB.out⟩
        have n1 : (1 : Int) < (bb : Int) := by omega
        have n2 : (bb : Int) > 1 := by omega
        obtain ⟨br, orr, Ai, ci, hA, hr1, hr2, cr, hci, hmi, hrow⟩ := (HH.out.below HB.out hh1).row (r := k) hlt
        subst hA
        have HPV := Lib.hid (ha.1 _ (gr_memS hlt))
        have HSB := Lib.hid (show sB W ws c all f most (k + 1) = if gi (gr all k) f = 0 then sB W ws c all f most k else min (sB W ws c all f most k) (1 + mS W ws (lfC c (gr all k))) from by rw [sB])
        obtain ⟨P, hP⟩ : ∃ P, P = gr all k := ⟨_, rfl⟩
        rw [← hP] at cr hci hrow HPV HSB
        have hpl : P.length = c.length := by rw [(vPat_iff.1 HPV.out).2.1, HL.out]
        have hpl1 : P.length ≤ c.length := by omega
        have hpl2 : c.length ≤ P.length := by omega
        have HPN := Lib.hid (fun i => pat_nn HPV.out i)
        have HPW := Lib.hid (show ∀ i, gi P i ≤ 60 from fun i => by
          have h1 := vPat_iff.1 HPV.out
          have h2 := (vWid_iff.1 h1.1).2.1
          by_cases hi : i < P.length
          · have := (h1.2.2.1 i hi).2; omega
          · rw [gi_outS (by omega)]; omega)
        have HROW := Lib.hid hrow
        obtain ⟨bp, op, hAi, _, _, cp, _⟩ := hrow.cell (k := f) (by omega)
        subst hAi
        have fp1 : (f : Int) < (P.length : Int) := by omega
        have hzn := HPN.out f
        obtain ⟨z, hz⟩ : ∃ z, z = gi P f := ⟨_, rfl⟩
        rw [← hz] at cp hzn HSB
        have hbp9 : bp < wo.heap.size := World.block_lt_of_cell? wo _ cp
        clear hP hpl hz hrow
        by_cases y3 : z = 0
        · have y4 : (z == 0) = true := beq_t y3
          have HB2 := Lib.hid (show bb = sB W ws c all f most (k + 1) by rw [HSB.out, if_pos y3]; exact HBB.out)
          clear HSB HBB y3
          go_wp2
          go_roundw
          case rel => exact ⟨k + 1, bb, hlt, by go_num, rfl, hbb1, hbb2, HB2.out, HB.out, hzr⟩
          case measure => simp [intOf]; omega
        have y4 : (z == 0) = false := beq_f y3
        have HSB2 := Lib.hid (show sB W ws c all f most (k + 1) = min bb (1 + mS W ws (lfC c P)) by rw [HSB.out, if_neg y3, ← HBB.out])
        have bl : Below wo.heap.size wo (wo.alloc (.cells #[] 3)) := (Below.refl _ _).alloc (Nat.le_refl _) _
        have HE0 := Lib.hid (OwnI.empty wo wo.heap.size 3 (Nat.le_refl _))
        have HBL := Lib.hid bl
        have crl := keepB bl cr
        have cpl := keepB bl cp
        clear HSB HBB y3 bl
        go_wp2
        clear crl cpl y4 cp
        go_loopw [12, 13] (fun o j wr => ∃ jj : Nat, jj ≤ c.length ∧ j = .int .i64 jj ∧ Hid (OwnI wr wo.heap.size 3 o ((lfC c P).take jj)) ∧ Hid (Below wo.heap.size wo wr) ∧ wo.heap.size ≤ wr.heap.size) (fun _ j _ => c.length - (intOf j).toNat)
        case atStart => exact ⟨0, Nat.zero_le _, rfl, by show OwnI _ _ _ _ _; simpa using HE0.out, HBL.out, by simp⟩
        case round =>
          obtain ⟨j, hj, rfl, HO, HBX, hzx⟩ := hrel
          clear HE0 HBL
          obtain ⟨Ao, co, rfl, hco, hco2⟩ := HO.out.form
          by_cases hjl : j < c.length
          rotate_left
          · have hnj : ¬ (j : Int) < (c.length : Int) := by omega
            obtain ⟨q, hq⟩ : ∃ q : Nat, q = bb - 2 := ⟨_, rfl⟩
            have hq2 : (bb : Int) - 2 = (q : Int) := by omega
            have gq : IntKind.i64.wrap (q : Int) = (q : Int) := IntWalk.i64_in _ (by omega)
            obtain ⟨D, hD⟩ : ∃ D, D = lfC c P := ⟨_, rfl⟩
            have HD := Lib.hid hD
            have hDl : D.length = c.length := by rw [hD, lfC_len]
            have HOD := Lib.hid (show OwnI wr wo.heap.size 3 (.slice Ao D.length co) D by
              have h9 := HO.out
              rw [List.take_of_length_le (by rw [lfC_len]; omega), ← hD] at h9
              exact h9)
            have hlen9 : ((lfC c P).take j).length = D.length := by rw [List.take_of_length_le (by rw [lfC_len]; omega), hD]
            rw [hlen9]
            have HDL := Lib.hid hDl
            have HDN := Lib.hid (show ∀ i, 0 ≤ gi D i from fun i => by rw [hD]; exact lfC_nn _ _ i)
            have HDS := Lib.hid (show D.sum ≤ 60 by rw [hD]; exact Int.le_trans (lfC_sum H0.out HPN.out) H60.out)
            rw [← hD] at HSB2
            obtain ⟨rr, hrr⟩ : ∃ rr, rr = min (mS W ws D) (q + 1) := ⟨_, rfl⟩
            have HRR := Lib.hid hrr
            have hrr2 : rr ≤ 101 := by omega
            have g1 : IntKind.i64.wrap (1 + (rr : Int)) = 1 + (rr : Int) := IntWalk.i64_in _ (by omega)
            obtain ⟨nb, hnb⟩ : ∃ nb : Nat, nb = min bb (1 + rr) := ⟨_, rfl⟩
            have hmin : min (bb : Int) (1 + (rr : Int)) = (nb : Int) := by omega
            have HNB := Lib.hid (show nb = sB W ws c all f most (k + 1) by rw [HSB2.out]; omega)
            have hnb1 : 1 ≤ nb := by omega
            have hnb2 : nb ≤ most + 1 := by omega
            have hqm : q < m := by omega
            have hq100 : q ≤ 100 := by omega
            clear HO hD hDl hlen9 HSB2 hrr hnb hq
            go_wp2_with fail
            refine (ih q _ _ _ _ Wd _ _ D wr hqm hq100 ((HH.out.below HB.out hh1).below (HBX.out.mono hzr) hh1) (by omega) HOD.out.ints (Nat.le_refl _) (by rw [HDL.out, HL.out]) HDN.out HDS.out).mono ?_
            rw [← HRR.out]
            rintro e w5 ⟨rfl, b5⟩
            have HB5 := Lib.hid (HB.out.trans ((HBX.out.trans (b5.mono hzx)).mono hzr))
            clear b5
            go_wp2
            go_roundw
            case rel => exact ⟨k + 1, nb, hlt, by go_num, rfl, hnb1, hnb2, HNB.out, HB5.out, by have := HB5.out.size; omega⟩
            case measure => simp [intOf]; omega
          obtain ⟨b9, o9, hB9, _, _, cy, _⟩ := ((HY.out.below HB.out hh2).below (HBX.out.mono hzr) hh2).cell (k := j) hjl
          simp only [Option.some.injEq, Addr.mk.injEq, and_true] at hB9
          obtain ⟨rfl, rfl⟩ := hB9
          have cr2 := keepB HBX.out cr
          have cz := keepB HBX.out (HROW.out.cell' (k := j) (by omega))
          have j0 : (0 : Int) ≤ (j : Int) := by omega
          have j1 : (j : Int) < (c.length : Int) := by omega
          have jp1 : (j : Int) < (P.length : Int) := by omega
          have hyr := HCR.out j hjl
          have hzr1 := HPN.out j
          have hzr2 := HPW.out j
          have HST := Lib.hid (lfC_step (p := P) hjl)
          have hlt9 : ((lfC c P).take j).length = j := by rw [List.length_take, lfC_len]; omega
          rw [hlt9] at HO ⊢
          obtain ⟨y, hy⟩ : ∃ y, y = gi c j := ⟨_, rfl⟩
          obtain ⟨zz, hzz⟩ : ∃ z, z = gi P j := ⟨_, rfl⟩
          rw [← hy] at cy hyr HST
          rw [← hzz] at cz hzr1 hzr2 HST
          obtain ⟨d, hd⟩ : ∃ d, d = y - zz := ⟨_, rfl⟩
          have hd2 : y - zz = d := hd.symm
          rw [hd2] at HST
          have gd : IntKind.i64.wrap d = d := IntWalk.i64_in _ (by omega)
          obtain ⟨v, hv9⟩ : ∃ v, v = max 0 d := ⟨_, rfl⟩
          have hmx : max 0 d = v := hv9.symm
          have hvI : I64 v := by refine ⟨by omega, by omega⟩
          rw [hmx] at HST
          have hln : ((lfC c P).take j).length ≤ 1099511627776 := by omega
          have HOd := Lib.hid HO.out.drew
          have HLN := Lib.hid hln
          clear hy hzz hd hv9 hlt9 hln hyr hzr1 hzr2
          go_wp2
          refine wp_region_held_drew (S := fun w' => w'.cell? ⟨b, o + j, none⟩ = some (.int .i64 y) ∧ w'.cell? ⟨br, orr + k, none⟩ = some (.slice (some ⟨bp, op, none⟩) P.length ci) ∧ w'.cell? ⟨bp, op + j, none⟩ = some (.int .i64 zz)) (by kernel_rfl) ?_ (fun hHeld => ?_)
          · (first | (try dsimp only); go_keep | (go_split_ands; refine ⟨?_, ?_, ?_⟩ <;> first | exact keepB bx5 (by assumption) | exact keepB bx4 (by assumption) | exact keepB bx3 (by assumption) | exact keepB bx2 (by assumption) | exact keepB bx1 (by assumption) | exact keepO bo5 (by first | (simp; done) | (simp; omega)) (by assumption) | exact keepO bo4 (by first | (simp; done) | (simp; omega)) (by assumption) | exact keepO bo3 (by first | (simp; done) | (simp; omega)) (by assumption) | exact keepO bo2 (by first | (simp; done) | (simp; omega)) (by assumption) | exact keepO bo1 (by first | (simp; done) | (simp; omega)) (by assumption) | exact keepW bg2 (by first | (simp; done) | (simp; omega)) (by assumption) | exact keepW bg1 (by first | (simp; done) | (simp; omega)) (by assumption) | assumption))
          refine wpAnyH_take (i := 0) (oi := ⟨some 53, _, _, _, _, _⟩) (v := _) rfl (by kernel_rfl) (by kernel_rfl) (by kernel_rfl) (fun _ _ _ h => h) (Or.inl ⟨by kernel_rfl, by intro w hSw; (try dsimp only at hSw); go_simp; try with_reducible rfl⟩) (by assumption) ?_
          simp only [Act.put, List.setIfInBounds_toArray, List.set_cons_zero, List.set_cons_succ]
          refine wpAnyH_take (i := 1) (oi := ⟨some 54, _, _, _, _, _⟩) (v := _) rfl (by kernel_rfl) (by kernel_rfl) (by kernel_rfl) (fun _ _ _ h => h) (Or.inl ⟨by kernel_rfl, by intro w hSw; (try dsimp only at hSw); go_simp; try with_reducible rfl⟩) (by assumption) ?_
          simp only [Act.put, List.setIfInBounds_toArray, List.set_cons_zero, List.set_cons_succ]
          refine wpAnyH_take (i := 2) (oi := ⟨some 55, _, _, _, _, _⟩) (v := _) rfl (by kernel_rfl) (by kernel_rfl) (by kernel_rfl) (fun _ _ _ h => h) (Or.inl ⟨by kernel_rfl, by intro w hSw; (try dsimp only at hSw); go_simp; try with_reducible rfl⟩) (by assumption) ?_
          simp only [Act.put, List.setIfInBounds_toArray, List.set_cons_zero, List.set_cons_succ]
          refine wpAnyH_take (i := 3) (oi := ⟨some 56, _, _, _, _, _⟩) (v := _) rfl (by kernel_rfl) (by kernel_rfl) (by kernel_rfl) (fun _ _ _ h => h) (Or.inl ⟨by kernel_rfl, by intro w hSw; (try dsimp only at hSw); go_simp; try with_reducible rfl⟩) (by assumption) ?_
          simp only [Act.put, List.setIfInBounds_toArray, List.set_cons_zero, List.set_cons_succ]
          refine wpAnyH_take (i := 4) (oi := ⟨some 57, _, _, _, _, _⟩) (v := _) rfl (by kernel_rfl) (by kernel_rfl) (by kernel_rfl) (fun _ _ _ h => h) (Or.inl ⟨by kernel_rfl, by intro w hSw; (try dsimp only at hSw); go_simp; try with_reducible rfl⟩) (by assumption) ?_
          simp only [Act.put, List.setIfInBounds_toArray, List.set_cons_zero, List.set_cons_succ]
          refine wpAnyH_take (i := 5) (oi := ⟨some 58, _, _, _, _, _⟩) (v := _) rfl (by kernel_rfl) (by kernel_rfl) (by kernel_rfl) (fun _ _ _ h => h) (Or.inl ⟨by kernel_rfl, by intro w hSw; (try dsimp only at hSw); go_simp; try with_reducible rfl⟩) (by assumption) ?_
          simp only [Act.put, List.setIfInBounds_toArray, List.set_cons_zero, List.set_cons_succ]
          refine wpAnyH_take (i := 6) (oi := ⟨some 59, _, _, _, _, _⟩) (v := _) rfl (by kernel_rfl) (by kernel_rfl) (by kernel_rfl) (fun _ _ _ h => h) (Or.inl ⟨by kernel_rfl, by intro w hSw; (try dsimp only at hSw); go_simp; try with_reducible rfl⟩) (by assumption) ?_
          simp only [Act.put, List.setIfInBounds_toArray, List.set_cons_zero, List.set_cons_succ]
          refine wpAnyH_take (i := 7) (oi := ⟨some 60, _, _, _, _, _⟩) (v := _) rfl (by kernel_rfl) (by kernel_rfl) (by kernel_rfl) (fun _ _ _ h => h) (Or.inl ⟨by kernel_rfl, by intro w hSw; (try dsimp only at hSw); go_simp; try with_reducible rfl⟩) (by assumption) ?_
          simp only [Act.put, List.setIfInBounds_toArray, List.set_cons_zero, List.set_cons_succ]
          refine wpAnyH_take (i := 8) (oi := ⟨some 61, _, _, _, _, _⟩) (v := _) rfl (by kernel_rfl) (by kernel_rfl) (by kernel_rfl) (fun _ _ _ h => h) (Or.inl ⟨by kernel_rfl, by intro w hSw; (try dsimp only at hSw); go_simp; try with_reducible rfl⟩) (by assumption) ?_
          simp only [Act.put, List.setIfInBounds_toArray, List.set_cons_zero, List.set_cons_succ]
          refine wpAnyH_take (i := 9) (oi := ⟨some 62, _, _, _, _, _⟩) (v := _) rfl (by kernel_rfl) (by kernel_rfl) (by kernel_rfl) (fun _ _ _ h => h) (Or.inl ⟨by kernel_rfl, by intro w hSw; (try dsimp only at hSw); go_simp; try with_reducible rfl⟩) (by assumption) ?_
          simp only [Act.put, List.setIfInBounds_toArray, List.set_cons_zero, List.set_cons_succ]
          refine wpAnyH_take (i := 10) (oi := ⟨some 63, _, _, _, _, _⟩) (v := _) rfl (by kernel_rfl) (by kernel_rfl) (by kernel_rfl) (fun _ _ _ h => h) (Or.inl ⟨by kernel_rfl, by intro w hSw; (try dsimp only at hSw); go_simp; try with_reducible rfl⟩) (by assumption) ?_
          simp only [Act.put, List.setIfInBounds_toArray, List.set_cons_zero, List.set_cons_succ]
          refine wpAnyH_take (i := 11) (oi := ⟨some 64, _, _, _, _, _⟩) (v := _) rfl (by kernel_rfl) (by kernel_rfl) (by kernel_rfl) (fun _ _ _ h => h) (Or.inl ⟨by kernel_rfl, by intro w hSw; (try dsimp only at hSw); go_simp; try with_reducible rfl⟩) (by assumption) ?_
          simp only [Act.put, List.setIfInBounds_toArray, List.set_cons_zero, List.set_cons_succ]
          refine wpAnyH_take (i := 12) (oi := ⟨some 65, _, _, _, _, _⟩) (v := _) rfl (by kernel_rfl) (by kernel_rfl) (by kernel_rfl) (fun _ _ _ h => h) (Or.inl ⟨by kernel_rfl, by intro w hSw; (try dsimp only at hSw); go_simp; try with_reducible rfl⟩) (by assumption) ?_
          simp only [Act.put, List.setIfInBounds_toArray, List.set_cons_zero, List.set_cons_succ]
          refine wpAnyH_take (i := 13) (oi := ⟨some 66, _, _, _, _, _⟩) (v := _) rfl (by kernel_rfl) (by kernel_rfl) (by kernel_rfl) (fun _ _ _ h => h) (Or.inl ⟨by kernel_rfl, by intro w hSw; (try dsimp only at hSw); go_simp; try with_reducible rfl⟩) (by assumption) ?_
          simp only [Act.put, List.setIfInBounds_toArray, List.set_cons_zero, List.set_cons_succ]
          refine wpAnyH_ready (rs := [14]) (by kernel_rfl) (by simp) ?_
          refine AllReadyH.cons (o := ⟨some 67, _, _, _, _, _⟩) rfl (fun K hK => ?_) AllReadyH.nil
          go_simp
          refine hK.out _ _ ?_ (fun hHeld2 => ?_)
          · (first | (try dsimp only); go_keep | (go_split_ands; refine ⟨?_, ?_, ?_⟩ <;> first | exact keepB bx5 (by assumption) | exact keepB bx4 (by assumption) | exact keepB bx3 (by assumption) | exact keepB bx2 (by assumption) | exact keepB bx1 (by assumption) | exact keepO bo5 (by first | (simp; done) | (simp; omega)) (by assumption) | exact keepO bo4 (by first | (simp; done) | (simp; omega)) (by assumption) | exact keepO bo3 (by first | (simp; done) | (simp; omega)) (by assumption) | exact keepO bo2 (by first | (simp; done) | (simp; omega)) (by assumption) | exact keepO bo1 (by first | (simp; done) | (simp; omega)) (by assumption) | exact keepW bg2 (by first | (simp; done) | (simp; omega)) (by assumption) | exact keepW bg1 (by first | (simp; done) | (simp; omega)) (by assumption) | assumption))
          clear hK K hHeld
          have hHeld := hHeld2
          clear hHeld2
          try simp only [Act.put, List.setIfInBounds_toArray, List.set_cons_zero, List.set_cons_succ]
          refine wpAnyH_ready (rs := [15]) (by kernel_rfl) (by simp) ?_
          refine AllReadyH.cons (o := ⟨some 68, _, _, _, _, _⟩) rfl (fun K hK => ?_) AllReadyH.nil
          rw [show (wr.alloc (.cells #[.int .i64 v] 3)).drew = wr.drew.alloc (.cells #[.int .i64 v] 3) from rfl]
          refine step_appendI SlI wr.drew rfl (.tmp 53) (.tmp 67) rfl v wo.heap.size _ _ rfl rfl HOd.out hvI HLN.out (by simpa using hzx) ?_
          intro v6 w6 ho6 hg6
          have cy6 := (hg6.below.cell (show b < wo.heap.size by omega)).trans cy
          have cr6 := (hg6.below.cell (show br < wo.heap.size by omega)).trans cr2
          have cz6 := (hg6.below.cell (show bp < wo.heap.size from hbp9)).trans cz
          refine hK.out _ _ ?_ (fun hHeld2 => ?_)
          · (first | (try dsimp only); go_keep | (go_split_ands; refine ⟨?_, ?_, ?_⟩ <;> first | exact keepB bx5 (by assumption) | exact keepB bx4 (by assumption) | exact keepB bx3 (by assumption) | exact keepB bx2 (by assumption) | exact keepB bx1 (by assumption) | exact keepO bo5 (by first | (simp; done) | (simp; omega)) (by assumption) | exact keepO bo4 (by first | (simp; done) | (simp; omega)) (by assumption) | exact keepO bo3 (by first | (simp; done) | (simp; omega)) (by assumption) | exact keepO bo2 (by first | (simp; done) | (simp; omega)) (by assumption) | exact keepO bo1 (by first | (simp; done) | (simp; omega)) (by assumption) | exact keepW bg2 (by first | (simp; done) | (simp; omega)) (by assumption) | exact keepW bg1 (by first | (simp; done) | (simp; omega)) (by assumption) | assumption))
          clear hK K hHeld
          have hHeld := hHeld2
          clear hHeld2
          try simp only [Act.put, List.setIfInBounds_toArray, List.set_cons_zero, List.set_cons_succ]
          refine wpAnyH_take (i := 16) (oi := ⟨some 12, _, _, _, _, _⟩) (v := _) rfl (by kernel_rfl) (by kernel_rfl) (by kernel_rfl) (fun _ _ _ h => h) (Or.inl ⟨by kernel_rfl, by intro w hSw; (try dsimp only at hSw); go_simp; try with_reducible rfl⟩) (by assumption) ?_
          simp only [Act.put, List.setIfInBounds_toArray, List.set_cons_zero, List.set_cons_succ]
          refine wpAnyH_done (by kernel_rfl) ?_ _
          clear hHeld
          have HO6 := Lib.hid (show OwnI w6 wo.heap.size 3 v6 ((lfC c P).take (j + 1)) by rw [HST.out]; exact ho6)
          have HB6 := Lib.hid (HBX.out.trans ((Below.refl wo.heap.size wr).drew.trans hg6.below))
          clear ho6 hg6 HST
          go_wp2
          go_roundw
          case rel => exact ⟨j + 1, hjl, by go_num, HO6.out, HB6.out, by have := HB6.out.size; omega⟩
          case measure => simp [intOf]; omega
end Go.Proofs.Yteckjiaaikdghaa

namespace Go.Proofs.Yteckjiaaikdghaa
open Go.RowKit
attribute [local go_sem ↓] Go.wp_at_zero Go.wp_at_succ

set_option maxRecDepth 100000 in
set_option maxHeartbeats 4000000 in
theorem fewest_any (l1 h1 l2 h2 : Nat) (W : Int) (v u : Value) (ws ns : List Int) (w : World) (hF : vFew W ws ns = true) (h : Ints w l1 h1 v ws) (hh1 : h1 ≤ w.heap.size) (hy : Ints w l2 h2 u ns) (hh2 : h2 ≤ w.heap.size) :
    Calls Try.prog 80 #[.int .i64 W, v, u] w fun e w' => e = .returned (.int .i64 (mS W ws ns : Nat)) ∧ Below w.heap.size w w' := by
  obtain ⟨A, c, rfl, hc, hm⟩ := h.form
  obtain ⟨B, d, rfl, hd, hm2⟩ := hy.form
  obtain ⟨hwan, hW24, h8⟩ := vFew_iff.1 hF
  obtain ⟨hwid, hnl, hnr, h60⟩ := vWan_iff.1 hwan
  obtain ⟨hW1, hW60, hws1, hws6, hwok⟩ := vWid_iff.1 hwid
  have HNN := Lib.hid (few_nn hF)
  have HALL := Lib.hid (fp_all hwid)
  have HLEN := Lib.hid (show (fpR ws ws.length W []).length ≤ 244140625 by
    have h1 := fpR_len (fun i hi => (vWid_w hwid hi).1) ws.length W [] (by omega) hW24 (by simp)
    have h2 : 25 ^ ws.length ≤ 25 ^ 6 := Nat.pow_le_pow_right (by omega) hws6
    omega)
  have hM8 : (mS W ws ns : Int) ≤ 8 := Int.le_trans (mS_sum hwid hnl HNN.out) h8
  have har := mS_area hwid hnl HNN.out
  obtain ⟨M, hM⟩ : ∃ M, M = mS W ws ns := ⟨_, rfl⟩
  rw [← hM] at hM8 har ⊢
  have HM := Lib.hid hM
  have HH := Lib.hid h
  have HY := Lib.hid hy
  have HWID := Lib.hid hwid
  have HNL := Lib.hid hnl
  have HUR := Lib.hid (show ∀ i, i < ns.length → 0 ≤ gi ns i ∧ gi ns i ≤ 1000 ∧ 0 ≤ gi ws i ∧ gi ws i ≤ 1000 from fun i hi => by
    have h1 := hnr i hi
    have h2 := vWid_w hwid (i := i) (by omega)
    omega)
  have HWW := Lib.hid (show ∀ i, i < ws.length → 1 ≤ gi ws i ∧ gi ws i ≤ 60 from fun i hi => by have := vWid_w hwid hi; omega)
  have hU0 : 0 ≤ usedL ws ns ns.length := used_nonneg (n := ns.length) (fun i hi => ⟨(HUR.out i hi).1, (HUR.out i hi).2.2.1⟩) (Nat.le_refl _)
  have hMW : (M : Int) * W ≤ 8 * 24 := Int.mul_le_mul hM8 hW24 (by omega) (by omega)
  obtain ⟨U, hU⟩ : ∃ U, U = usedL ws ns ns.length := ⟨_, rfl⟩
  rw [← hU] at har hU0
  have HU := Lib.hid hU
  obtain ⟨q, hq⟩ : ∃ q, q = (U + W - 1) / W := ⟨_, rfl⟩
  have hq0 : 0 ≤ q := by rw [hq]; exact Int.ediv_nonneg (by omega) (by omega)
  have hqM : q ≤ (M : Int) := by
    have h9 : q < (M : Int) + 1 := by
      rw [hq]
      refine Int.ediv_lt_of_lt_mul (by omega) ?_
      rw [Int.add_mul, Int.one_mul]
      omega
    omega
  have hquo : (U + W - 1).tdiv W = q := by rw [hq]; exact Int.tdiv_eq_ediv_of_nonneg (by omega)
  have gu : IntKind.i64.wrap (U + W) = U + W := IntWalk.i64_in _ (by omega)
  have gu1 : IntKind.i64.wrap (U + W - 1) = U + W - 1 := IntWalk.i64_in _ (by omega)
  have gq : IntKind.i64.wrap q = q := IntWalk.i64_in _ (by omega)
  have w0 : ¬ W = 0 := by omega
  have w1e : (W == 0) = false := beq_f w0
  have hns8 : ns.length ≤ 6 := by omega
  have HW24 := Lib.hid (show 0 ≤ W ∧ W ≤ 24 from ⟨by omega, hW24⟩)
  have H60 := Lib.hid h60
  have hMN : M ≤ 8 := by omega
  obtain ⟨q2, rfl⟩ := Int.eq_ofNat_of_zero_le hq0
  have hq2M : q2 ≤ M := by omega
  clear hF hwan hwid hnl hnr h60 hwok h hy hM hU hq har hMW h8 hM8 hq0 hqM hU0 hW60 hws1 hW1 hW24
  go_enter Try.func80, Try.ntmps80
  go_wp2_with fail
  have bl : Below w.heap.size w (w.alloc (.cells #[] 3)) := (Below.refl _ _).alloc (Nat.le_refl _) _
  have hbe := (OwnI.empty w w.heap.size 3 (Nat.le_refl _)).ints
  refine (patterns_any ws HWW.out hws6 ws.length _ _ _ _ W _ _ [] _ (HH.out.below bl hh1) (by simp; omega) hbe (Nat.le_refl _) HW24.out.1 HW24.out.2 (by simp)).mono ?_
  rintro e w2 ⟨v2, rfl, ho2, b2⟩
  have HB2 := Lib.hid (bl.trans (b2.mono (by simp)))
  have HR2 := Lib.hid ho2.rows
  obtain ⟨A2, c2, rfl, hc2, hm3⟩ := ho2.form
  have hz2 := HB2.out.size
  clear bl hbe b2 ho2
  obtain ⟨all, hall⟩ : ∃ all, all = fpR ws ws.length W [] := ⟨_, rfl⟩
  rw [← hall] at HALL HLEN HR2 hc2 ⊢
  have hal := HLEN.out
  clear hall
  go_wp2_with fail
  refine (used_any _ _ _ _ _ _ ws ns w2 (HH.out.below HB2.out hh1) (HY.out.below HB2.out hh2) (by have := HNL.out; omega) (by omega) HUR.out).mono ?_
  rw [← HU.out]
  rintro e w3 ⟨rfl, q3⟩
  have HB3 := Lib.hid (HB2.out.trans ((q3.below w2.heap.size).mono hz2))
  have HR3 := Lib.hid (HR2.out.below (q3.below w2.heap.size) (Nat.le_refl _))
  have hz3 := (q3.below w2.heap.size).size
  clear q3 HB2
  go_wp2
  go_loopw [8] (fun n wr => ∃ k : Nat, k ≤ M ∧ n = .int .i64 k ∧ Hid (Below w3.heap.size w3 wr)) (fun n _ => M - (intOf n).toNat)
  case atStart => exact ⟨q2, hq2M, rfl, Below.refl _ _⟩
  case round =>
    obtain ⟨k, hk, rfl, HB⟩ := hrel
    obtain ⟨r, hr⟩ : ∃ r, r = min (mS W ws ns) (k + 1) := ⟨_, rfl⟩
    have HRR := Lib.hid hr
    have hr2 : r = min M (k + 1) := by rw [hr, HM.out]
    have hz4 := HB.out.size
    clear hr
    go_wp2_with fail
    refine (sets_any W ws all HWID.out HALL.out hal 200 k _ _ _ _ W _ _ ns wr (by omega) (by omega) (HR3.out.below HB.out hz3) (by omega) ((HY.out.below HB3.out hh2).below HB.out (by omega)) (by omega) HNL.out HNN.out H60.out).mono ?_
    rw [← HRR.out]
    rintro e w5 ⟨rfl, b5⟩
    have HB5 := Lib.hid (HB.out.trans (b5.mono hz4))
    clear b5
    by_cases hlt : k < M
    · have y1 : (k : Int) < (r : Int) := by omega
      have y2 : (r : Int) > (k : Int) := y1
      clear hr2
      go_wp2
      go_roundw
      case rel => exact ⟨k + 1, hlt, by go_num, HB5.out⟩
      case measure => simp [intOf]; omega
    · have y1 : ¬ (k : Int) < (r : Int) := by omega
      have y2 : ¬ (r : Int) > (k : Int) := y1
      have HE := Lib.hid (show k = M by omega)
      clear hr2
      go_wp2
      go_ret
      exact ⟨ret_int (by rw [HE.out]), HB3.out.trans (HB5.out.mono (by omega))⟩
set_option maxRecDepth 100000 in
set_option maxHeartbeats 2000000 in
theorem FewestSetsS_any (l1 h1 l2 h2 : Nat) (W : Int) (v u : Value) (ws ns : List Int) (w : World) (h : Ints w l1 h1 v ws) (hh1 : h1 ≤ w.heap.size) (hy : Ints w l2 h2 u ns) (hh2 : h2 ≤ w.heap.size) :
    Calls Try.prog 41 #[.int .i64 W, v, u] w fun e w' => e = .returned (.int .i64 (fwL W ws ns)) ∧ Below w.heap.size w w' := by
  obtain ⟨A, c, rfl, hc, hm⟩ := h.form
  obtain ⟨B, d, rfl, hd, hm2⟩ := hy.form
  obtain ⟨R, hR⟩ : ∃ R, R = fwL W ws ns := ⟨_, rfl⟩
  rw [← hR]
  have HR := Lib.hid hR
  have HH := Lib.hid h
  have HY := Lib.hid hy
  clear hR h hy
  go_enter Try.func41, Try.ntmps41
  go_wp2_with fail
  refine (validWants_any _ _ _ _ W _ _ ws ns w HH.out HY.out).mono ?_
  rintro e x1 ⟨rfl, hq⟩
  have HQ := Lib.hid (hq.below w.heap.size)
  clear hq
  cases y1 : vWan W ws ns
  · have Hno := Lib.hid (show R = -1 by rw [HR.out]; exact fwL_no1 y1)
    go_wp2
    go_ret
    exact ⟨ret_int Hno.out.symm, HQ.out⟩
  have HN := Lib.hid y1
  clear y1
  have hwn := vWan_iff.1 HN.out
  have hns : ns.length ≤ 6 := by have := (vWid_iff.1 hwn.1).2.2.2.1; omega
  have HNS := Lib.hid (show ∀ i, i < ns.length → 0 ≤ gi ns i ∧ gi ns i ≤ 1000 from fun i hi => by have := hwn.2.2.1 i hi; omega)
  clear hwn
  have hz1 := HQ.out.size
  go_wp2_with fail
  refine (sTotalG_any _ _ _ ns _ (HY.out.below HQ.out hh2) (by omega) HNS.out).mono ?_
  rw [sumI_all]
  rintro e x2 ⟨rfl, hx2⟩
  subst hx2
  by_cases h8 : ns.sum ≤ 8
  rotate_left
  · have Hno := Lib.hid (show R = -1 by rw [HR.out]; exact fwL_no3 h8)
    have h82 : ns.sum > 8 := by omega
    go_wp2
    go_ret
    exact ⟨ret_int Hno.out.symm, HQ.out⟩
  have h82 : ¬ ns.sum > 8 := by omega
  by_cases hW : W ≤ 24
  rotate_left
  · have Hno := Lib.hid (show R = -1 by rw [HR.out]; exact fwL_no2 hW)
    have hW2 : W > 24 := by omega
    go_wp2
    go_ret
    exact ⟨ret_int Hno.out.symm, HQ.out⟩
  have hW2 : ¬ W > 24 := by omega
  have d8 : decide (ns.sum > 8) = false := decide_eq_false h82
  have d24 : decide (W > 24) = false := decide_eq_false hW2
  have HF := Lib.hid (show vFew W ws ns = true from vFew_iff.2 ⟨HN.out, hW, h8⟩)
  have HE := Lib.hid (show R = (mS W ws ns : Nat) by rw [HR.out]; exact fwL_mS HF.out)
  go_wp2_with fail
  refine (fewest_any _ _ _ _ W _ _ ws ns _ HF.out (HH.out.below HQ.out hh1) (by omega) (HY.out.below HQ.out hh2) (by omega)).mono ?_
  rintro e x3 ⟨rfl, b3⟩
  have HB3 := Lib.hid (HQ.out.trans (b3.mono hz1))
  clear b3
  rw [← HE.out]
  go_wp2
  go_ret
  exact ⟨rfl, HB3.out⟩
def FsPost (w : World) (e : Ending) (w' : World) : Prop := ∃ (p : Int) (u1 u2 : Value) (ws xs : List Int), e = .returned (.tuple #[.int .i64 p, u1, u2]) ∧ Ints w' w.heap.size w'.heap.size u1 ws ∧ Ints w' w.heap.size w'.heap.size u2 xs ∧ Below w.heap.size w w'
set_option maxRecDepth 100000 in
set_option maxHeartbeats 4000000 in
theorem DrawFewestSets_any (v : Value) (bs : List Int) (w : World) (h : Bytes w 0 w.heap.size v bs) :
    Calls Try.prog 39 #[v] w fun e w' => FsPost w e w' := by
  have hv : ∃ A n c, v = .slice A n c := by obtain ⟨A, c, e, _⟩ := h; exact ⟨A, _, c, e⟩
  obtain ⟨A0, n0, c0, rfl⟩ := hv
  go_enter Try.func39, Try.ntmps39
  go_wp2_with fail
  refine (newReader_any _ bs w h).mono ?_
  rintro e w2 ⟨rv, rfl, hr2, bx⟩
  obtain ⟨k2, hk2⟩ : ∃ k : Nat, k = 0 := ⟨0, rfl⟩
  have hz2 := hr2.lt
  have HB2 := Lib.hid bx
  clear h bx
  go_wp2_with fail
  refine (anyWidths_any _ _ _ rv w2 hr2 (by omega)).mono ?_
  rintro e w3 ⟨p, u, ws, k1, rfl, hp, ho3, hl5, hr3, hk3, bg3⟩
  have hfo := ho3.form
  obtain ⟨A, c, rfl, hc, hm⟩ := hfo
  have HB3 := Lib.hid (HB2.out.trans (below_of_grown bg3 (Nat.le_refl _) (by omega)))
  have HO3 := Lib.hid ho3
  have HP := Lib.hid hp
  have hz3 := bg3.size
  clear hr2 HB2 bg3 ho3 hp
  go_wp2_with fail
  refine (one_lit _ _ _ rv [5, 6, 4, 10] w3 _ _ _ hr3 (by omega) rfl rfl rfl (by simp) (by simp) (by unfold I64; simp)).mono ?_
  rintro e w4 ⟨q, rfl, hq, hr4, bg4⟩
  have hqr : 0 ≤ q ∧ q ≤ 100 := by simp only [List.mem_cons, List.not_mem_nil, or_false] at hq; omega
  have HB4 := Lib.hid (HB3.out.trans (below_of_grown bg4 (Nat.le_refl _) (by omega)))
  have HO4 := Lib.hid (HO3.out.grownK bg4 (by omega))
  have hz4 := bg4.size
  clear hr3 HB3 HO3 bg4 hq
  go_wp2_with fail
  refine (someWants_any _ _ _ ws.length c rv A q w4 hr4 (by omega) hl5 hqr).mono ?_
  rintro e w5 ⟨u5, xs, k5, rfl, ho5, hr5, hk5, bg5⟩
  have hf5 := ho5.form
  obtain ⟨A5, c5, rfl, hc5, hm5⟩ := hf5
  have HB5 := Lib.hid (HB4.out.trans (below_of_grown bg5 (Nat.le_refl _) (by omega)))
  have HO5 := Lib.hid (HO4.out.grownK bg5 (by omega))
  have HX5 := Lib.hid ho5
  have hz5 := bg5.size
  clear HB4 HO4 bg5 ho5
  have H1 := Lib.hid (HO5.out.ints.wide (show w.heap.size ≤ w2.heap.size by omega) (Nat.le_refl _))
  have H2 := Lib.hid (HX5.out.ints.wide (show w.heap.size ≤ w4.heap.size by omega) (Nat.le_refl _))
  go_wp2
  refine bodyPost_ret (v := .tuple #[.int .i64 p, .slice A ws.length c, .slice A5 xs.length c5]) (by simp [results, Try.results39, go_sem, *]) rfl ⟨p, _, _, ws, xs, rfl, H1.out, H2.out, HB5.out⟩
set_option maxRecDepth 100000 in
set_option maxHeartbeats 8000000 in
theorem FnFewestSets_walk (v : Value) (xs : List Int) (w : World) (h : Bytes w 0 w.heap.size v xs) :
    Calls Try.prog 9 #[v] w fun e w' => e = .returned (.bool true) ∧ Below w.heap.size w w' := by
  have hv : ∃ A c, v = .slice A xs.length c ∧ xs.length ≤ c ∧ c ≤ 2 ^ 63 - 1 := by obtain ⟨A, c, e, h1, h2, _⟩ := h; exact ⟨A, c, e, h1, by unfold maxLen at h2; omega⟩
  obtain ⟨A0, c0, rfl, hc0, hm0⟩ := hv
  by_cases hl : 1048576 < xs.length
  · have hl' : (1048576 : Int) < (xs.length : Int) := by omega
    go_enter Try.func9, Try.ntmps9
    go_wp2
    go_ret
    exact ⟨rfl, Below.refl _ _⟩
  have hl' : ¬ (1048576 : Int) < (xs.length : Int) := by omega
  go_enter Try.func9, Try.ntmps9
  go_wp2_with fail
  refine (DrawFewestSets_any _ xs w h).mono ?_
  rintro e w1 ⟨p, u1, u2, ws, ns, rfl, hi1, hi2, b1⟩
  obtain ⟨A1, c1, rfl, hc1, hm1⟩ := hi1.form
  obtain ⟨A2, c2, rfl, hc2, hm2⟩ := hi2.form
  have HB1 := Lib.hid b1
  have HW := Lib.hid (hi1.wide (Nat.zero_le _) (Nat.le_refl _))
  have HX := Lib.hid (hi2.wide (Nat.zero_le _) (Nat.le_refl _))
  have hz1 := b1.size
  clear h hl hl' b1 hi1 hi2
  have hrng : -1 ≤ fwL p ws ns ∧ fwL p ws ns ≤ 8 := by
    unfold fwL
    split
    · have := fwN_rng p ws ns (stN ns ns.length - 1).toNat; omega
    · omega
  have HFEW := Lib.hid (show 0 ≤ fwL p ws ns → vFew p ws ns = true from fun h9 => by
    rcases hb : vFew p ws ns with _ | _
    · unfold fwL at h9; rw [hb] at h9; simp at h9
    · rfl)
  obtain ⟨R, hR⟩ : ∃ R, R = fwL p ws ns := ⟨_, rfl⟩
  have HR := Lib.hid hR
  rw [← hR] at hrng HFEW
  clear hR
  go_wp2_with fail
  refine (FewestSetsI_any _ _ _ _ p _ _ ws ns w1 HW.out (Nat.le_refl _) HX.out (Nat.le_refl _)).mono ?_
  rw [← HR.out]
  rintro e w2 ⟨rfl, b⟩
  have HB2 := Lib.hid b
  have hz2 := b.size
  clear b
  go_wp2_with fail
  refine (FewestSetsS_any _ _ _ _ p _ _ ws ns w2 (HW.out.below HB2.out (Nat.le_refl _)) hz2 (HX.out.below HB2.out (Nat.le_refl _)) hz2).mono ?_
  rw [← HR.out]
  rintro e w3 ⟨rfl, b⟩
  have HB3 := Lib.hid (HB2.out.trans (b.mono hz2))
  have hz3 := b.size
  clear b
  have hRR : (R != R) = false := by simp
  by_cases h0 : R < 0
  · have hRR2 : (R == R) = true := by simp
    go_wp2_with fail
    refine (FewestSetsS_any _ _ _ _ p _ _ ws ns w3 (HW.out.below HB3.out (Nat.le_refl _)) (by omega) (HX.out.below HB3.out (Nat.le_refl _)) (by omega)).mono ?_
    rw [← HR.out]
    rintro e w4 ⟨rfl, b⟩
    have HB4 := Lib.hid (HB3.out.trans (b.mono (by omega)))
    clear b
    go_wp2
    go_ret
    exact ⟨rfl, HB1.out.trans (HB4.out.mono hz1)⟩
  have hF := HFEW.out (by omega)
  have hwn := vWan_iff.1 (vFew_iff.1 hF).1
  have hwd := vWid_iff.1 hwn.1
  have HLS := Lib.hid (fun i (hi : i < ns.length) => fs_less hF hi)
  have HGR := Lib.hid (show R ≤ (gsL p ws ns).length by rw [HR.out]; exact fs_greedy hF)
  have har := mS_area hwn.1 hwn.2.1 (few_nn hF)
  have hm8 := fwL_mS hF
  rw [← HR.out] at hm8
  rw [hwn.2.1, used_comm, ← hm8] at har
  have hgl := gsL_len p ws ns
  have HNL := Lib.hid hwn.2.1
  have hn6 : ns.length ≤ 6 := by omega
  have hp60 : 1 ≤ p ∧ p ≤ 24 := ⟨hwd.1, (vFew_iff.1 hF).2.1⟩
  have HNI := Lib.hid (show ∀ i, i < ns.length → 0 ≤ gi ns i ∧ gi ns i ≤ 20 from hwn.2.2.1)
  have HRG := Lib.hid (show ∀ i, i < ns.length → 0 ≤ gi ns i ∧ gi ns i ≤ 1000 ∧ 0 ≤ gi ws i ∧ gi ws i ≤ 1000 from fun i hi => by
    have h1 := hwn.2.2.1 i hi
    have h2 := vWid_w hwn.1 (i := i) (by omega)
    omega)
  obtain ⟨G, hG⟩ : ∃ G, G = gsL p ws ns := ⟨_, rfl⟩
  obtain ⟨S, hS⟩ : ∃ S, S = usedL ns ws ws.length := ⟨_, rfl⟩
  have HE2 := Lib.hid hG
  have HE3 := Lib.hid hS
  rw [← hG] at HGR hgl
  rw [← hS] at har
  have m0 : 0 ≤ R * p ∧ R * p ≤ 192 := by
    have h1 : R * p ≤ 8 * p := Int.mul_le_mul_of_nonneg_right hrng.2 (by omega)
    have h2 : 0 ≤ R * p := Int.mul_nonneg (by omega) (by omega)
    omega
  obtain ⟨rp, hrp⟩ : ∃ x, x = R * p := ⟨_, rfl⟩
  have hrp2 : R * p = rp := hrp.symm
  rw [hrp2] at har m0
  have gm : IntKind.i64.wrap rp = rp := IntWalk.i64_in _ (by omega)
  have hR0 : ¬ R < 0 := h0
  clear hF hwn hwd hG hS hm8 hrp
  go_wp2
  go_loopw [7, 8, 9] (fun i _ _ wr => ∃ k : Nat, k ≤ ns.length ∧ i = .int .i64 k ∧ Hid (Below w3.heap.size w3 wr)) (fun i _ _ _ => ns.length - (intOf i).toNat)
  case atStart => exact ⟨0, Nat.zero_le _, rfl, Below.refl _ _⟩
  case round =>
    obtain ⟨k, hk, rfl, HB⟩ := hrel
    have hzr := HB.out.size
    by_cases hlt : k < ns.length
    rotate_left
    · have hnk : ¬ (k : Int) < (ns.length : Int) := by omega
      have hRG : R ≤ (G.length : Int) := HGR.out
      have hSR : rp ≥ S := har
      have hSR2 : S ≤ rp := har
      have HWr := Lib.hid ((HW.out.below HB3.out (Nat.le_refl _)).below HB.out (by omega))
      have HXr := Lib.hid ((HX.out.below HB3.out (Nat.le_refl _)).below HB.out (by omega))
      go_wp2_with fail
      refine (GreedySets_any _ _ _ _ _ _ p ws ns wr HWr.out (by omega) HXr.out (by omega)).mono ?_
      rw [← HE2.out]
      rintro e w6 ⟨vo, rfl, oo, b⟩
      obtain ⟨A6, c6, rfl, hc6, hm6⟩ := oo.form
      have HB6 := Lib.hid (HB.out.trans (b.mono (by omega)))
      have HWs := Lib.hid (HWr.out.below b (by omega))
      have HXs := Lib.hid (HXr.out.below b (by omega))
      clear oo b
      go_wp2_with fail
      refine (product_any _ _ _ _ _ _ ws ns w6 HWs.out HXs.out HNL.out (by omega) HRG.out).mono ?_
      rw [← HE3.out]
      rintro e w7 ⟨rfl, q⟩
      have HB7 := Lib.hid (HB6.out.trans (q.below w3.heap.size))
      clear q
      go_wp2
      go_ret
      exact ⟨rfl, HB1.out.trans ((HB3.out.trans (HB7.out.mono HB3.out.size)).mono hz1)⟩
    have HXr := Lib.hid ((HX.out.below HB3.out (Nat.le_refl _)).below HB.out (by omega))
    have HWr := Lib.hid ((HW.out.below HB3.out (Nat.le_refl _)).below HB.out (by omega))
    have hLS := HLS.out k hlt
    have hNI := HNI.out k hlt
    have k0 : (0 : Int) ≤ (k : Int) := by omega
    have k1 : (k : Int) < (ns.length : Int) := by omega
    have bl : Below wr.heap.size wr (wr.alloc (.cells #[] 3)) := (Below.refl _ _).alloc (Nat.le_refl _) _
    have HXl := Lib.hid (HXr.out.below bl (by omega))
    have HOl := Lib.hid (OwnI.empty wr wr.heap.size 3 (Nat.le_refl _))
    have HBl := Lib.hid bl
    obtain ⟨x, hx⟩ : ∃ x, x = gi ns k := ⟨_, rfl⟩
    have HXX := Lib.hid hx
    rw [← hx] at hLS hNI
    obtain ⟨y, hy⟩ : ∃ y, y = max 0 (x - 1) := ⟨_, rfl⟩
    have hmy : max 0 (x - 1) = y := hy.symm
    rw [hmy] at hLS
    have hyI : 0 ≤ y ∧ y ≤ 20 := by omega
    obtain ⟨T, hT⟩ : ∃ T, T = fwL p ws (ns.set k y) := ⟨_, rfl⟩
    rw [← hT, ← HR.out] at hLS
    have HT := Lib.hid hT
    have t1 : ¬ T > R := by omega
    have t2 : ¬ T < R - 1 := by omega
    have gr1 : IntKind.i64.wrap (R - 1) = R - 1 := IntWalk.i64_in _ (by omega)
    have gx1 : IntKind.i64.wrap (x - 1) = x - 1 := IntWalk.i64_in _ (by omega)
    clear bl hx hy hT hLS
    obtain ⟨bb, ob, hA, _, _, _, _⟩ := HXr.out.cell (k := k) hlt
    subst hA
    go_wp2_with (at_builtin; refine wpList_appendIs SlI _ rfl (.tmp 45) (.tmp 46) rfl _ _ _ wr.heap.size _ [] _ rfl rfl HOl.out HXl.out (by simp; omega) (by simp) ?_; intro v8 w8 ho8 hg8; have ho8' : OwnI w8 wr.heap.size 3 v8 ns := (by simpa using ho8); obtain ⟨A8, c8, rfl, hc8, hm8⟩ := ho8'.form; obtain ⟨g8, hA8, hg1, hg2, cw, fw, hset⟩ := ho8'.at_ hlt; subst hA8; rw [← HXX.out] at cw; have HB8 := Lib.hid (HBl.out.trans hg8.below); have HS8 := Lib.hid (hset y ⟨(by omega), (by omega)⟩); have cx := (HXr.out.below HB8.out (by omega)).cell' (k := k) hlt; rw [← HXX.out] at cx; clear ho8 ho8' hset hg8)
    have hz8 := HB8.out.size
    have HB9 := Lib.hid (HB8.out.setCell (p := ⟨g8, k, none⟩) hg1 (.int .i64 y))
    go_wp2_with fail
    refine (FewestSetsI_any _ _ _ _ p _ _ ws (ns.set k y) _ (HWr.out.below HB9.out (by omega)) (by have := HB9.out.size; omega) (by have h9 := HS8.out.ints; simpa using h9) (by simp)).mono ?_
    rw [← HT.out]
    rintro e w9 ⟨rfl, b9⟩
    have HB10 := Lib.hid (HB.out.trans ((HB9.out.trans (b9.mono (by have := HB9.out.size; omega))).mono hzr))
    clear b9
    go_wp2
    go_roundw
    case rel => exact ⟨k + 1, hlt, by go_num, HB10.out⟩
    case measure => simp [intOf]; omega
end Go.Proofs.Yteckjiaaikdghaa
