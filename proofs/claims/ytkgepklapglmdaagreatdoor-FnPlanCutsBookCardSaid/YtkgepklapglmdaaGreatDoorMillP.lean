/-
  Lemmas and contracts of single functions of this program, used by the proofs of its laws: what each call returns and what becomes of memory. Conditions: the hypotheses of each theorem.
-/
import Derived.Test.YtkgepklapglmdaaGreatDoorMillA
namespace Go.Proofs.YtkgepklapglmdaaGreatDoor
open Go.RowKit

def lbs (es : List Ent) : List Int := es.map (·.lb)
/-- the index of a label, -1 if it is not there -/
def entI (es : List Ent) (lb : Int) : Int := plc (lbs es) lb
/-- a reel comes: the reference's place, the program's place -/
def insE (f : Ent) : List Ent → List Ent
  | [] => [f]
  | e :: t => if f.lb < e.lb then f :: e :: t else e :: insE f t
def insI (f : Ent) : List Ent → List Ent
  | [] => [f]
  | e :: t => if e.lb < f.lb then e :: insI f t else f :: e :: t
theorem ins_eq {f : Ent} : ∀ {es : List Ent}, (∀ e ∈ es, e.lb ≠ f.lb) → insI f es = insE f es
  | [], _ => rfl
  | e :: t, h => by
    have h1 := h e List.mem_cons_self
    rw [insI, insE]
    by_cases h2 : e.lb < f.lb
    · rw [if_pos h2, if_neg (by omega), ins_eq fun x hx => h x (List.mem_cons_of_mem _ hx)]
    · rw [if_neg h2, if_pos (by omega)]
theorem insE_len (f : Ent) : ∀ es : List Ent, (insE f es).length = es.length + 1
  | [] => rfl
  | e :: t => by
    rw [insE]
    split
    · rfl
    · rw [List.length_cons, insE_len f t, List.length_cons]
/-- the area of the cuts that are good enough -/
def areaP (p : List Int) : Int := (gi p 1 - gi p 0) * (gi p 3 - gi p 2)
def goodA (e : Ent) (g : Int) : Int := e.ps.foldl (fun n p => if worstL e.ds p ≤ g then n + areaP p else n) 0
/-- a mill: entries, came, shipped, pulped -/
structure Mil where
  es : List Ent
  a : Int
  b : Int
  z : Int
def Mil.nil : Mil := ⟨[], 0, 0, 0⟩
def Mil.ok (m : Mil) : Bool := vMill m.es m.a m.b m.z
def chk (m : Mil) : Option Mil := if m.ok = true then some m else none
/-- an event: kind, label, left, right, from, to, grade -/
structure Evt where
  k : Int
  lb : Int
  l : Int
  r : Int
  f : Int
  t : Int
  g : Int
/-- what the reference makes of an event -/
def apE (m : Mil) (e : Evt) : Option Mil :=
  if e.k = 0 then
    if 1 ≤ e.r ∧ e.r ≤ 60 ∧ 1 ≤ e.t ∧ e.t ≤ 400 then chk ⟨insE ⟨e.lb, e.r, e.t, [], []⟩ m.es, m.a + e.r * e.t, m.b, m.z⟩ else none
  else if entI m.es e.lb < 0 then none
  else if e.k = 1 then chk ⟨m.es.set (entI m.es e.lb).toNat { ge m.es (entI m.es e.lb).toNat with ds := (ge m.es (entI m.es e.lb).toNat).ds ++ [[e.l, e.r, e.f, e.t, e.g]] }, m.a, m.b, m.z⟩
  else if e.k = 2 then chk ⟨m.es.set (entI m.es e.lb).toNat { ge m.es (entI m.es e.lb).toNat with ps := (ge m.es (entI m.es e.lb).toNat).ps ++ [[e.l, e.r, e.f, e.t]] }, m.a, m.b, m.z⟩
  else if e.k = 3 then chk ⟨m.es.eraseIdx (entI m.es e.lb).toNat, m.a, m.b + goodA (ge m.es (entI m.es e.lb).toNat) e.g, m.z + ((ge m.es (entI m.es e.lb).toNat).W * (ge m.es (entI m.es e.lb).toNat).L - goodA (ge m.es (entI m.es e.lb).toNat) e.g)⟩
  else none
/-- the events of a book, one after the other -/
def runB : Mil → List Evt → Option Mil
  | m, [] => some m
  | m, e :: t => match apE m e with
    | some m' => runB m' t
    | none => none
theorem chk_some {m m' : Mil} (h : chk m = some m') : m' = m ∧ m.ok = true := by
  unfold chk at h
  split at h
  · rename_i hk; injection h with h; exact ⟨h.symm, hk⟩
  · cases h
theorem apE_ok {m m' : Mil} {e : Evt} (h : apE m e = some m') : m'.ok = true := by
  unfold apE at h
  repeat' split at h
  all_goals first
    | (obtain ⟨rfl, h2⟩ := chk_some h; exact h2)
    | cases h
theorem insE_yes {f : Ent} : ∀ {es : List Ent} (fs : List Ent), (∃ e ∈ es, f.lb < e.lb) → insE f (es ++ fs) = insE f es ++ fs
  | [], _, h => by obtain ⟨e, he, _⟩ := h; cases he
  | e :: t, fs, h => by
    rw [List.cons_append, insE, insE]
    by_cases h1 : f.lb < e.lb
    · rw [if_pos h1, if_pos h1]; rfl
    · rw [if_neg h1, if_neg h1, insE_yes fs (by
        obtain ⟨x, hx, hl⟩ := h
        rcases List.mem_cons.1 hx with rfl | hx
        · exact absurd hl h1
        · exact ⟨x, hx, hl⟩)]; rfl
theorem insE_no {f : Ent} : ∀ {es : List Ent}, (∀ e ∈ es, ¬ f.lb < e.lb) → insE f es = es ++ [f]
  | [], _ => rfl
  | e :: t, h => by
    rw [insE, if_neg (h e List.mem_cons_self), insE_no fun x hx => h x (List.mem_cons_of_mem _ hx)]; rfl
theorem insE_now {f x : Ent} : ∀ {es : List Ent}, (∀ e ∈ es, ¬ f.lb < e.lb) → f.lb < x.lb → insE f (es ++ [x]) = es ++ [f, x]
  | [], _, h => by rw [List.nil_append, insE, if_pos h]; rfl
  | e :: t, h, hx => by
    rw [List.cons_append, insE, if_neg (h e List.mem_cons_self), insE_now (fun y hy => h y (List.mem_cons_of_mem _ hy)) hx]; rfl
/-- is there one behind f among the first k -/
def anyB (f : Int) (es : List Ent) (k : Nat) : Bool := (es.take k).any fun e => decide (f < e.lb)
theorem anyB_succ {f : Int} {es : List Ent} {k : Nat} (h : k < es.length) : anyB f es (k + 1) = (anyB f es k || decide (f < (ge es k).lb)) := by
  unfold anyB; rw [take_ge h, List.any_append]; simp
/-- the list that grows: the reference's adding of a reel, behind k entries -/
def adS (f : Ent) (es : List Ent) (k : Nat) : List Ent := if anyB f.lb es k = true then insE f (es.take k) else es.take k
theorem adS_now {f : Ent} {es : List Ent} {k : Nat} (h : k < es.length) (h1 : anyB f.lb es k = false) (h2 : f.lb < (ge es k).lb) : adS f es (k + 1) = adS f es k ++ [f] ++ [ge es k] := by
  unfold adS
  rw [anyB_succ h, h1, decide_eq_true h2, Bool.false_or, if_pos rfl, if_neg (by simp), take_ge h, insE_now (fun e he hl => by
    have : anyB f.lb es k = true := List.any_eq_true.2 ⟨e, he, decide_eq_true hl⟩
    rw [h1] at this; cases this) h2, List.append_assoc]; rfl
theorem adS_on {f : Ent} {es : List Ent} {k : Nat} (h : k < es.length) (h1 : anyB f.lb es k = true ∨ ¬ f.lb < (ge es k).lb) : adS f es (k + 1) = adS f es k ++ [ge es k] := by
  unfold adS
  rw [anyB_succ h]
  cases h2 : anyB f.lb es k
  · rcases h1 with h1 | h1
    · rw [h2] at h1; cases h1
    · rw [decide_eq_false h1, Bool.or_self, if_neg (by simp), if_neg (by simp), take_ge h]
  · rw [Bool.true_or, if_pos rfl, if_pos rfl, take_ge h]
    refine insE_yes _ ?_
    obtain ⟨e, he, hl⟩ := List.any_eq_true.1 h2
    exact ⟨e, he, by simpa using hl⟩
theorem adS_end {f : Ent} {es : List Ent} : (if anyB f.lb es es.length = true then adS f es es.length else adS f es es.length ++ [f]) = insE f es := by
  unfold adS
  cases h : anyB f.lb es es.length
  · rw [if_neg (by simp), if_neg (by simp), List.take_length, insE_no]
    intro e he hl
    have : anyB f.lb es es.length = true := List.any_eq_true.2 ⟨e, by rw [List.take_length]; exact he, decide_eq_true hl⟩
    rw [h] at this; cases this
  · rw [if_pos rfl, if_pos rfl, List.take_length]
/-- the good area of the first k cuts -/
def goodK (e : Ent) (g : Int) (k : Nat) : Int := (e.ps.take k).foldl (fun n p => if worstL e.ds p ≤ g then n + areaP p else n) 0
theorem goodK_succ {e : Ent} {g : Int} {k : Nat} (h : k < e.ps.length) : goodK e g (k + 1) = if worstL e.ds (gr e.ps k) ≤ g then goodK e g k + areaP (gr e.ps k) else goodK e g k := by
  unfold goodK; rw [take_gr h, List.foldl_append]; rfl
theorem goodK_all (e : Ent) (g : Int) : goodK e g e.ps.length = goodA e g := by unfold goodK goodA; rw [List.take_length]
theorem areaP_rng {e : Ent} (h : vEnt e = true) {k : Nat} (hk : k < e.ps.length) : 0 ≤ areaP (gr e.ps k) ∧ areaP (gr e.ps k) ≤ 24000 := by
  have hc := (vEnt_iff.1 h).2.2
  have hr := vReel_rng (vCuts_iff.1 hc).1
  have h1 := (vCuts_iff.1 hc).2.2 k hk
  have hp : pv (gr e.ps k) e.W e.L = true := by
    cases hp : pv (gr e.ps k) e.W e.L
    · rw [cut_part hp] at h1; exact h1
    · rfl
  have hi := insB_true hp
  unfold areaP
  have m0 : 0 ≤ (gi (gr e.ps k) 1 - gi (gr e.ps k) 0) * (gi (gr e.ps k) 3 - gi (gr e.ps k) 2) := Int.mul_nonneg (by omega) (by omega)
  have m1 : (gi (gr e.ps k) 1 - gi (gr e.ps k) 0) * (gi (gr e.ps k) 3 - gi (gr e.ps k) 2) ≤ 60 * 400 := Int.mul_le_mul (by omega) (by omega) (by omega) (by omega)
  omega
theorem goodK_rng {e : Ent} (h : vEnt e = true) (g : Int) : ∀ k, k ≤ e.ps.length → 0 ≤ goodK e g k ∧ goodK e g k ≤ 24000 * k
  | 0, _ => ⟨by simp [goodK], by simp [goodK]⟩
  | k + 1, hk => by
    have ih := goodK_rng h g k (by omega)
    have ha := areaP_rng h (k := k) (by omega)
    rw [goodK_succ (by omega)]
    split <;> omega
end Go.Proofs.YtkgepklapglmdaaGreatDoor
