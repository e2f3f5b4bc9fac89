/-
  Lemmas and contracts of single functions of this program, used by the proofs of its laws: what each call returns and what becomes of memory. Conditions: the hypotheses of each theorem.
-/
import Derived.Test.YtpimbibmlmjjpaaPileJ
namespace Go.Proofs.Ytpimbibmlmjjpaa
open Go.RowKit

def freeAt (p : List (List Int)) (r i : Nat) : Bool := (cell p r i == 0) && liesB p r i
/-- the first place that is free -/
def PutAt (p : List (List Int)) (r i : Nat) : Prop := r < p.length ∧ i < (gr p r).length ∧ freeAt p r i = true ∧ (∀ a, a < r → ∀ b, b < (gr p a).length → freeAt p a b = false) ∧ ∀ b, b < i → freeAt p r b = false
theorem putAt_unique {p : List (List Int)} {r i r' i' : Nat} (h : PutAt p r i) (k : PutAt p r' i') : r = r' ∧ i = i' := by
  obtain ⟨h1, h2, h3, h4, h5⟩ := h
  obtain ⟨k1, k2, k3, k4, k5⟩ := k
  rcases Nat.lt_trichotomy r r' with e | e | e
  · rw [k4 r e i h2] at h3; cases h3
  · subst e
    rcases Nat.lt_trichotomy i i' with e | e | e
    · rw [k5 i e] at h3; cases h3
    · exact ⟨rfl, e⟩
    · rw [h5 i' e] at k3; cases k3
  · rw [h4 r' e i' k2] at k3; cases k3
def Can (p : List (List Int)) (n : Int) : Prop := okLabel p n = true ∧ FR p n < 0
def PutRel (p : List (List Int)) (n : Int) (q : List (List Int)) (b : Bool) : Prop :=
  (b = true ∧ Can p n ∧ ∃ r i, PutAt p r i ∧ q = set2 p r i n) ∨ (b = false ∧ q = [] ∧ (¬ Can p n ∨ ∀ r i, ¬ PutAt p r i))
theorem putRel_unique {p : List (List Int)} {n : Int} {q q' : List (List Int)} {b b' : Bool} (h : PutRel p n q b) (k : PutRel p n q' b') : q = q' ∧ b = b' := by
  rcases h with ⟨rfl, h1, r, i, h2, rfl⟩ | ⟨rfl, rfl, h1⟩ <;> rcases k with ⟨rfl, k1, r', i', k2, rfl⟩ | ⟨rfl, rfl, k1⟩
  · obtain ⟨rfl, rfl⟩ := putAt_unique h2 k2; exact ⟨rfl, rfl⟩
  · exact absurd h2 (k1.elim (fun f => absurd h1 f) (fun f => f r i))
  · exact absurd k2 (h1.elim (fun f => absurd k1 f) (fun f => f r' i'))
  · exact ⟨rfl, rfl⟩
theorem putRel_no {p : List (List Int)} {n : Int} (h : ¬ Can p n) : PutRel p n [] false := .inr ⟨rfl, rfl, .inl h⟩
theorem not_can1 {p : List (List Int)} {n : Int} (h : okLabel p n = false) : ¬ Can p n := fun k => by have h2 := k.1; rw [h] at h2; cases h2
theorem not_can2 {p : List (List Int)} {n : Int} (h : ¬ FR p n < 0) : ¬ Can p n := fun k => h k.2

/-- how PutRoll ends -/
def PutEnd (w : World) (p : List (List Int)) (n : Int) (e : Ending) (w' : World) : Prop :=
  ∃ v' q b s, e = .returned (.tuple #[v', .bool b]) ∧ PutRel p n q b ∧ OwnR w' w.heap.size s 26 3 v' q ∧ s ≤ w'.heap.size ∧ Below w.heap.size w w'
set_option maxRecDepth 100000 in
set_option maxHeartbeats 1000000 in
theorem PutRoll_any (lo hi : Nat) (v : Value) (p : List (List Int)) (n : Int) (w : World) (h : IRows w lo hi v p) (hhi : hi ≤ w.heap.size) (ht : tot p ≤ 1048576) (hn : I64 n) :
    Calls Try.prog 31 #[v, .int .i64 n] w (PutEnd w p n) := by
  obtain ⟨A, c, rfl, hc, hm⟩ := h.form
  cases hok : okLabel p n
  · have Hno := Lib.hid (putRel_no (not_can1 hok))
    have hcase : vPile p = false ∨ (vPile p = true ∧ n < 1) ∨ (vPile p = true ∧ ¬ n < 1 ∧ 9999 < n) := by
      unfold okLabel at hok
      cases hv : vPile p
      · exact .inl rfl
      · rw [hv, Bool.true_and] at hok
        have h0 := inR_false hok
        by_cases h1 : n < 1
        · exact .inr (.inl ⟨rfl, h1⟩)
        · exact .inr (.inr ⟨rfl, h1, by omega⟩)
    clear hok
    rcases hcase with hv | ⟨hv, h1⟩ | ⟨hv, h1, h2⟩
    · go_enter Try.func31, Try.ntmps31
      go_wp2_with (go_at_call 35; refine (ValidPile_any _ _ _ _ _ h hhi ht).mono ?_; rw [hv]; rintro e w1 ⟨rfl, hb1⟩)
      go_ret2
      exact ⟨_, [], false, w1.heap.size, rfl, Hno.out, OwnR.nil _ _ _ _ _, Nat.le_refl _, hb1⟩
    · have hd : decide (n < 1) = true := decide_eq_true h1
      go_enter Try.func31, Try.ntmps31
      go_wp2_with (go_at_call 35; refine (ValidPile_any _ _ _ _ _ h hhi ht).mono ?_; rw [hv]; rintro e w1 ⟨rfl, hb1⟩)
      go_ret2
      exact ⟨_, [], false, w1.heap.size, rfl, Hno.out, OwnR.nil _ _ _ _ _, Nat.le_refl _, hb1⟩
    · have hd : decide (n < 1) = false := decide_eq_false h1
      have hd2 : decide (9999 < n) = true := decide_eq_true h2
      go_enter Try.func31, Try.ntmps31
      go_wp2_with (go_at_call 35; refine (ValidPile_any _ _ _ _ _ h hhi ht).mono ?_; rw [hv]; rintro e w1 ⟨rfl, hb1⟩)
      go_ret2
      exact ⟨_, [], false, w1.heap.size, rfl, Hno.out, OwnR.nil _ _ _ _ _, Nat.le_refl _, hb1⟩
  · have hv : vPile p = true := by unfold okLabel at hok; rw [Bool.and_eq_true] at hok; exact hok.1
    have hr : 1 ≤ n ∧ n ≤ 9999 := by unfold okLabel at hok; rw [Bool.and_eq_true] at hok; exact inR_true hok.2
    obtain ⟨hr1, hr2⟩ := hr
    have HV := Lib.hid (vPile_true hv)
    have hd : decide (n < 1) = false := decide_eq_false (by omega)
    have hd2 : decide (9999 < n) = false := decide_eq_false (by omega)
    have hpl : p.length ≤ 6 := HV.out.1
    by_cases hF : FR p n < 0
    · have Hcan := Lib.hid (show Can p n from ⟨hok, hF⟩)
      clear hok
      go_enter Try.func31, Try.ntmps31
      go_wp2_with (first | (go_at_call 35; refine (ValidPile_any _ _ _ _ _ h hhi ht).mono ?_; rw [hv]; rintro e w1 ⟨rfl, hb1⟩; have hbs1 := hb1.size) | (go_at_call 18; refine (FindRoll_any _ _ _ _ _ _ (h.below hb1 hhi) (by omega) ht).mono ?_; rintro e w2 ⟨rfl, hb2⟩; have hbs2 := hb2.size; have hb02 := hb1.trans (hb2.mono hbs1)))
      clear hv
      have h2 := h.below hb02 hhi
      go_loop [34, 8, 9, 10, 11] (fun i _ _ _ _ => ∃ r : Nat, r ≤ p.length ∧ i = .int .i64 r ∧ Hid (∀ a, a < r → ∀ b, b < (gr p a).length → freeAt p a b = false)) (fun i _ _ _ _ => p.length - (intOf i).toNat)
      case atStart => exact ⟨0, by omega, rfl, fun a ha => absurd ha (by omega)⟩
      case round =>
        obtain ⟨r, hk, rfl, HR⟩ := hrel
        by_cases hlt : r < p.length
        · obtain ⟨b, o, Ai, ci, rfl, hb3, hb4, hcell, hci, hmi, hi1⟩ := h2.row hlt
          have hlen6 : (gr p r).length ≤ 6 := by
            have h1 := (HV.out.2.2 r hlt).1
            rcases HV.out.2.1 with h3 | h3 <;> omega
          go_wp2
          go_loop [41, 10, 11] (fun i _ _ => ∃ j : Nat, j ≤ (gr p r).length ∧ i = .int .i64 j ∧ Hid (∀ b, b < j → freeAt p r b = false)) (fun i _ _ => (gr p r).length - (intOf i).toNat)
          case atStart => exact ⟨0, by omega, rfl, fun a ha => absurd ha (by omega)⟩
          case round =>
            obtain ⟨j, hj, rfl, HC⟩ := hrel
            by_cases hjt : j < (gr p r).length
            · obtain ⟨bi, oi, rfl, hbi, hbi2, hcelli, h64⟩ := hi1.cell hjt
              have hup : 0 < r → j + 1 < (gr p (r - 1)).length := fun h0 => by
                have h1 := (HV.out.2.2 (r - 1) (by omega)).1
                have h3 := (HV.out.2.2 r hlt).1
                omega
              have Hup := Lib.hid hup
              have Hstep := Lib.hid (fun (hx : freeAt p r j = false) (q : Nat) (hq : q < j + 1) => show freeAt p r q = false from by
                rcases Nat.lt_or_ge q j with h' | h'
                · exact HC.out q h'
                · obtain rfl : q = j := by omega
                  exact hx)
              clear hup
              cases hz : (gi (gr p r) j == 0)
              · have Hx := Lib.hid (show freeAt p r j = false by unfold freeAt cell; rw [hz]; rfl)
                go_wp2
                go_round
                case rel => exact ⟨j + 1, by omega, by go_num, Hstep.out Hx.out⟩
                case measure => simp [intOf]; omega
              · cases hl : liesB p r j
                · have Hx := Lib.hid (show freeAt p r j = false by unfold freeAt cell; rw [hz, hl]; rfl)
                  have Hl := Lib.hid hl
                  clear hl
                  go_wp2_with (go_at_call 63; refine (lies_any _ _ _ _ _ _ _ h2 hlt Hup.out (by omega)).mono ?_; rw [Hl.out]; rintro e w' ⟨rfl, rfl⟩)
                  go_round
                  case rel => exact ⟨j + 1, by omega, by go_num, Hstep.out Hx.out⟩
                  case measure => simp [intOf]; omega
                · have Hx := Lib.hid (show PutAt p r j from ⟨hlt, hjt, by unfold freeAt cell; rw [hz, hl]; rfl, HR.out, HC.out⟩)
                  have Hl := Lib.hid hl
                  clear hl
                  go_wp2_with (first | (go_at_call 63; refine (lies_any _ _ _ _ _ _ _ h2 hlt Hup.out (by omega)).mono ?_; rw [Hl.out]; rintro e w' ⟨rfl, rfl⟩) | (go_at_call 55; refine (clonePile_any _ _ _ _ _ h2 (by omega) ht (by omega)).mono ?_; rintro e w3 ⟨v3, rfl, ho3, hb3'⟩; obtain ⟨A3, c3, rfl, hc3, hm3⟩ := ho3.form; have hbs3 := hb3'.size; obtain ⟨g, gi', ci', rfl, hgl, hgh, hc1', hci', hmi', hgil, hgih, _, hc2', hf2, hst⟩ := ho3.at_ (r := r) (i := j) (by decide) hlt hjt; have Hst := Lib.hid (hst n hn); clear hst))
                  go_ret2
                  exact ⟨_, set2 p r j n, true, w3.heap.size, rfl, .inl ⟨rfl, Hcan.out, r, j, Hx.out, rfl⟩, Hst.out.wide (by omega) (Nat.le_refl _), by simp [World.setCell], (hb02.trans (hb3'.mono (by omega))).setCell (by show w.heap.size ≤ gi'; omega) _⟩
            · have He := Lib.hid (show j = (gr p r).length by omega)
              go_wp2
              go_round
              case rel => exact ⟨r + 1, by omega, by go_num, fun a ha => by
                rcases Nat.lt_or_ge a r with h' | h'
                · exact HR.out a h'
                · obtain rfl : a = r := by omega
                  exact fun b hb => HC.out b (by rw [He.out]; exact hb)⟩
              case measure => simp [intOf]; omega
        · have He := Lib.hid (show r = p.length by omega)
          go_wp2
          go_ret2
          exact ⟨_, [], false, w2.heap.size, rfl, .inr ⟨rfl, rfl, .inr fun a b hab => by
            have h1 := HR.out a (by have := hab.1; omega) b hab.2.1
            rw [hab.2.2.1] at h1; cases h1⟩, OwnR.nil _ _ _ _ _, Nat.le_refl _, hb02⟩
    · have Hno := Lib.hid (putRel_no (not_can2 hF))
      clear hok
      go_enter Try.func31, Try.ntmps31
      go_wp2_with (first | (go_at_call 35; refine (ValidPile_any _ _ _ _ _ h hhi ht).mono ?_; rw [hv]; rintro e w1 ⟨rfl, hb1⟩; have hbs1 := hb1.size) | (go_at_call 18; refine (FindRoll_any _ _ _ _ _ _ (h.below hb1 hhi) (by omega) ht).mono ?_; rintro e w2 ⟨rfl, hb2⟩; have hbs2 := hb2.size; have hb02 := hb1.trans (hb2.mono hbs1)))
      go_ret2
      exact ⟨_, [], false, w2.heap.size, rfl, Hno.out, OwnR.nil _ _ _ _ _, Nat.le_refl _, hb02⟩

theorem put_cases {p : List (List Int)} (hv : ValidP p) {r j : Nat} (hr : r < p.length) (hj : j < (gr p r).length) :
    ((cell p r j == 0) = false ∧ freeAt p r j = false) ∨ ((cell p r j == 0) = true ∧ r = 0 ∧ freeAt p r j = true) ∨
    ((cell p r j == 0) = true ∧ 0 < r ∧ ¬ 0 < cell p (r - 1) j ∧ freeAt p r j = false) ∨
    ((cell p r j == 0) = true ∧ 0 < r ∧ 0 < cell p (r - 1) j ∧ ¬ 0 < cell p (r - 1) (j + 1) ∧ freeAt p r j = false) ∨
    ((cell p r j == 0) = true ∧ 0 < r ∧ 0 < cell p (r - 1) j ∧ 0 < cell p (r - 1) (j + 1) ∧ freeAt p r j = true) := by
  unfold freeAt liesB
  cases h1 : (cell p r j == 0)
  · exact .inl ⟨rfl, rfl⟩
  · refine .inr ?_
    rcases Nat.eq_zero_or_pos r with h0 | h0
    · exact .inl ⟨rfl, h0, by simp [h0]⟩
    · refine .inr ?_
      have hlen : (gr p (r - 1)).length = (gr p r).length + 1 := by
        have h1 := (hv.2.2 (r - 1) (by omega)).1
        have h3 := (hv.2.2 r hr).1
        omega
      have n1 := valid_nonneg hv (r := r - 1) (i := j) (by omega) (by omega)
      have n2 := valid_nonneg hv (r := r - 1) (i := j + 1) (by omega) (by omega)
      have hd : decide (r = 0) = false := decide_eq_false (by omega)
      rw [hd]
      by_cases h2 : 0 < cell p (r - 1) j
      · refine .inr ?_
        have e1 : (cell p (r - 1) j == 0) = false := beq_f (by omega)
        rw [e1]
        by_cases h3 : 0 < cell p (r - 1) (j + 1)
        · have e2 : (cell p (r - 1) (j + 1) == 0) = false := beq_f (by omega)
          rw [e2]
          exact .inr ⟨rfl, h0, h2, h3, rfl⟩
        · have e2 : (cell p (r - 1) (j + 1) == 0) = true := beq_t (by omega)
          rw [e2]
          exact .inl ⟨rfl, h0, h2, h3, rfl⟩
      · have e1 : (cell p (r - 1) j == 0) = true := beq_t (by omega)
        rw [e1]
        exact .inl ⟨rfl, h0, h2, rfl⟩
set_option maxRecDepth 100000 in
set_option maxHeartbeats 2000000 in
theorem sPutRoll_any (lo hi : Nat) (v : Value) (p : List (List Int)) (n : Int) (w : World) (h : IRows w lo hi v p) (hhi : hi ≤ w.heap.size) (ht : tot p ≤ 1048576) (hn : I64 n) :
    Calls Try.prog 32 #[v, .int .i64 n] w (PutEnd w p n) := by
  obtain ⟨A, c, rfl, hc, hm⟩ := h.form
  cases hok : okLabel p n
  · have Hno := Lib.hid (putRel_no (not_can1 hok))
    have hcase : vPile p = false ∨ (vPile p = true ∧ inR 1 9999 n = false) := by
      unfold okLabel at hok
      cases hv : vPile p
      · exact .inl rfl
      · rw [hv, Bool.true_and] at hok; exact .inr ⟨rfl, hok⟩
    clear hok
    rcases hcase with hv | ⟨hv, h1⟩
    all_goals
      go_enter Try.func32, Try.ntmps32
      go_wp2_with (first | (go_at_call 46; refine (validPile_any _ _ _ _ _ h hhi ht).mono ?_; rw [hv]; rintro e w1 ⟨rfl, hb1⟩) | (go_at_call 47; refine (inRange_any _ _ _ _).mono ?_; rw [h1]; rintro e w' ⟨rfl, rfl⟩))
      go_ret2
      exact ⟨_, [], false, w1.heap.size, rfl, Hno.out, OwnR.nil _ _ _ _ _, Nat.le_refl _, hb1⟩
  · have hv : vPile p = true := by unfold okLabel at hok; rw [Bool.and_eq_true] at hok; exact hok.1
    have hr : inR 1 9999 n = true := by unfold okLabel at hok; rw [Bool.and_eq_true] at hok; exact hok.2
    have HV := Lib.hid (vPile_true hv)
    have hpl : p.length ≤ 6 := HV.out.1
    have hfr : FR p n = fndR p n := by unfold FR; rw [if_pos hok]
    by_cases hF : fndR p n < 0
    · have Hcan := Lib.hid (show Can p n from ⟨hok, by rw [hfr]; exact hF⟩)
      have hdf : decide (fndR p n < 0) = true := decide_eq_true hF
      clear hok hfr
      go_enter Try.func32, Try.ntmps32
      go_wp2_with (first | (go_at_call 46; refine (validPile_any _ _ _ _ _ h hhi ht).mono ?_; rw [hv]; rintro e w1 ⟨rfl, hb1⟩; have hbs1 := hb1.size; have h2 := h.below hb1 hhi) | (go_at_call 47; refine (inRange_any _ _ _ _).mono ?_; rw [hr]; rintro e w' ⟨rfl, rfl⟩) | (go_at_call 48; refine (find_any _ _ _ _ _ _ h2).mono ?_; rintro e w' ⟨rfl, rfl⟩))
      clear hv hr
      go_loop [8, 9] (fun i _ => ∃ r : Nat, r ≤ p.length ∧ i = .int .i64 r ∧ Hid (∀ a, a < r → ∀ b, b < (gr p a).length → freeAt p a b = false)) (fun i _ => p.length - (intOf i).toNat)
      case atStart => exact ⟨0, by omega, rfl, fun a ha => absurd ha (by omega)⟩
      case round =>
        obtain ⟨r, hk, rfl, HR⟩ := hrel
        by_cases hlt : r < p.length
        · obtain ⟨b, o, Ai, ci, rfl, hb3, hb4, hcell, hci, hmi, hi1⟩ := h2.row hlt
          have hlen6 : (gr p r).length ≤ 6 := by
            have h1 := (HV.out.2.2 r hlt).1
            rcases HV.out.2.1 with h3 | h3 <;> omega
          have hdl : decide ((r : Int) < (p.length : Int)) = true := decide_eq_true (by omega)
          go_wp2
          go_loop [9] (fun i => ∃ j : Nat, j ≤ (gr p r).length ∧ i = .int .i64 j ∧ Hid (∀ b, b < j → freeAt p r b = false)) (fun i => (gr p r).length - (intOf i).toNat)
          case atStart => exact ⟨0, by omega, rfl, fun a ha => absurd ha (by omega)⟩
          case round =>
            obtain ⟨j, hj, rfl, HC⟩ := hrel
            by_cases hjt : j < (gr p r).length
            · obtain ⟨bi, oi, rfl, hbi, hbi2, hcelli, h64⟩ := hi1.cell hjt
              have Hup := Lib.hid (show 0 < r → (gr p (r - 1)).length = (gr p r).length + 1 from fun h0 => by
                have h1 := (HV.out.2.2 (r - 1) (by omega)).1
                have h3 := (HV.out.2.2 r hlt).1
                omega)
              have Hstep := Lib.hid (fun (hx : freeAt p r j = false) (q : Nat) (hq : q < j + 1) => show freeAt p r q = false from by
                rcases Nat.lt_or_ge q j with h' | h'
                · exact HC.out q h'
                · obtain rfl : q = j := by omega
                  exact hx)
              have Hput := Lib.hid (fun (hx : freeAt p r j = true) => show PutAt p r j from ⟨hlt, hjt, hx, HR.out, HC.out⟩)
              rcases put_cases HV.out hlt hjt with ⟨hz, hx⟩ | ⟨hz, hr0, hx⟩ | ⟨hz, h0, hx1, hx⟩ | ⟨hz, h0, hx1, hx2, hx⟩ | ⟨hz, h0, hx1, hx2, hx⟩
              · have Hx := Lib.hid hx
                unfold cell at hz
                clear hx
                go_wp2
                go_round
                case rel => exact ⟨j + 1, by omega, by go_num, Hstep.out Hx.out⟩
                case measure => simp [intOf]; omega
              · have Hx := Lib.hid hx
                unfold cell at hz
                have hrz : ((r : Int) == 0) = true := beq_t (by omega)
                have Hr0 := Lib.hid hr0
                clear hx hr0
                go_wp2_with (go_at_call 64; refine (copyRows_any _ _ _ _ _ h2 (by omega) ht (by omega)).mono ?_; rintro e w3 ⟨v3, rfl, ho3, hb3'⟩; obtain ⟨A3, c3, rfl, hc3, hm3⟩ := ho3.form; have hbs3 := hb3'.size; obtain ⟨g, gi', ci', rfl, hgl, hgh, hc1', hci', hmi', hgil, hgih, _, hc2', hf2, hst⟩ := ho3.at_ (r := r) (i := j) (by decide) hlt hjt; have Hst := Lib.hid (hst n hn); clear hst)
                go_ret2
                exact ⟨_, set2 p r j n, true, w3.heap.size, rfl, .inl ⟨rfl, Hcan.out, r, j, Hput.out Hx.out, rfl⟩, Hst.out.wide (by omega) (Nat.le_refl _), by simp [World.setCell], (hb1.trans (hb3'.mono (by omega))).setCell (by show w.heap.size ≤ gi'; omega) _⟩
              · have Hx := Lib.hid hx
                unfold cell at hz hx1
                have hrz : ((r : Int) == 0) = false := beq_f (by omega)
                have Hl := Hup.out h0
                obtain ⟨Aj, cj, hcellp, hcj, hmj, hij⟩ := h2.row' (show r - 1 < p.length by omega)
                obtain ⟨bj, oj, rfl, hbj, hbj2, hcellq, _⟩ := hij.cell (show j < (gr p (r - 1)).length by omega)
                have hd1 : decide (0 < gi (gr p (r - 1)) j) = false := decide_eq_false hx1
                clear hx
                go_wp2
                go_round
                case rel => exact ⟨j + 1, by omega, by go_num, Hstep.out Hx.out⟩
                case measure => simp [intOf]; omega
              · have Hx := Lib.hid hx
                unfold cell at hz hx1 hx2
                have hrz : ((r : Int) == 0) = false := beq_f (by omega)
                have Hl := Hup.out h0
                obtain ⟨Aj, cj, hcellp, hcj, hmj, hij⟩ := h2.row' (show r - 1 < p.length by omega)
                obtain ⟨bj, oj, rfl, hbj, hbj2, hcellq, _⟩ := hij.cell (show j < (gr p (r - 1)).length by omega)
                have hcellq2 := hij.cell' (show j + 1 < (gr p (r - 1)).length by omega)
                have hd1 : decide (0 < gi (gr p (r - 1)) j) = true := decide_eq_true hx1
                have hd2 : decide (0 < gi (gr p (r - 1)) (j + 1)) = false := decide_eq_false hx2
                clear hx
                go_wp2
                go_round
                case rel => exact ⟨j + 1, by omega, by go_num, Hstep.out Hx.out⟩
                case measure => simp [intOf]; omega
              · have Hx := Lib.hid hx
                unfold cell at hz hx1 hx2
                have hrz : ((r : Int) == 0) = false := beq_f (by omega)
                have Hl := Hup.out h0
                obtain ⟨Aj, cj, hcellp, hcj, hmj, hij⟩ := h2.row' (show r - 1 < p.length by omega)
                obtain ⟨bj, oj, rfl, hbj, hbj2, hcellq, _⟩ := hij.cell (show j < (gr p (r - 1)).length by omega)
                have hcellq2 := hij.cell' (show j + 1 < (gr p (r - 1)).length by omega)
                have hd1 : decide (0 < gi (gr p (r - 1)) j) = true := decide_eq_true hx1
                have hd2 : decide (0 < gi (gr p (r - 1)) (j + 1)) = true := decide_eq_true hx2
                clear hx
                go_wp2_with (go_at_call 64; refine (copyRows_any _ _ _ _ _ h2 (by omega) ht (by omega)).mono ?_; rintro e w3 ⟨v3, rfl, ho3, hb3'⟩; obtain ⟨A3, c3, rfl, hc3, hm3⟩ := ho3.form; have hbs3 := hb3'.size; obtain ⟨g, gi', ci', rfl, hgl, hgh, hc1', hci', hmi', hgil, hgih, _, hc2', hf2, hst⟩ := ho3.at_ (r := r) (i := j) (by decide) hlt hjt; have Hst := Lib.hid (hst n hn); clear hst)
                go_ret2
                exact ⟨_, set2 p r j n, true, w3.heap.size, rfl, .inl ⟨rfl, Hcan.out, r, j, Hput.out Hx.out, rfl⟩, Hst.out.wide (by omega) (Nat.le_refl _), by simp [World.setCell], (hb1.trans (hb3'.mono (by omega))).setCell (by show w.heap.size ≤ gi'; omega) _⟩
            · have He := Lib.hid (show j = (gr p r).length by omega)
              go_wp2
              go_round
              case rel => exact ⟨r + 1, by omega, by go_num, fun a ha => by
                rcases Nat.lt_or_ge a r with h' | h'
                · exact HR.out a h'
                · obtain rfl : a = r := by omega
                  exact fun b hb => HC.out b (by rw [He.out]; exact hb)⟩
              case measure => simp [intOf]; omega
        · have He := Lib.hid (show r = p.length by omega)
          have hdl : decide ((r : Int) < (p.length : Int)) = false := decide_eq_false (by omega)
          go_wp2
          go_ret2
          exact ⟨_, [], false, w1.heap.size, rfl, .inr ⟨rfl, rfl, .inr fun a b hab => by
            have h1 := HR.out a (by have := hab.1; have := He.out; omega) b hab.2.1
            rw [hab.2.2.1] at h1; cases h1⟩, OwnR.nil _ _ _ _ _, Nat.le_refl _, hb1⟩
    · have Hno := Lib.hid (putRel_no (not_can2 (p := p) (n := n) (by rw [hfr]; exact hF)))
      have hdf : decide (fndR p n < 0) = false := decide_eq_false hF
      clear hok hfr
      go_enter Try.func32, Try.ntmps32
      go_wp2_with (first | (go_at_call 46; refine (validPile_any _ _ _ _ _ h hhi ht).mono ?_; rw [hv]; rintro e w1 ⟨rfl, hb1⟩; have hbs1 := hb1.size; have h2 := h.below hb1 hhi) | (go_at_call 47; refine (inRange_any _ _ _ _).mono ?_; rw [hr]; rintro e w' ⟨rfl, rfl⟩) | (go_at_call 48; refine (find_any _ _ _ _ _ _ h2).mono ?_; rintro e w' ⟨rfl, rfl⟩))
      go_loop [8] (fun i => i = .int .i64 0) (fun _ => 0)
      case atStart => exact rfl
      case round =>
        subst hrel
        go_wp2
        all_goals
          go_ret2
          exact ⟨_, [], false, w1.heap.size, rfl, Hno.out, OwnR.nil _ _ _ _ _, Nat.le_refl _, hb1⟩
end Go.Proofs.Ytpimbibmlmjjpaa
