/-
  Lemmas and contracts of single functions of this program, used by the proofs of its laws: what each call returns and what becomes of memory. Conditions: the hypotheses of each theorem.
-/
import Derived.Test.YtkgepklapglmdaaGreatDoorTxt2
import Derived.Test.YtkgepklapglmdaaGreatDoorEvA
namespace Go.Proofs.YtkgepklapglmdaaGreatDoor
open Go.RowKit
attribute [local go_sem ↓] Go.wp_at_zero Go.wp_at_succ

def lenV : Value → Nat
  | .slice _ n _ => n
  | _ => 0
/-- the events of whole lines, at most n -/
def recE : Nat → List (List UInt8) → List (List Int)
  | n + 1, x :: y :: t => match parE x with
    | some e => e :: recE n (y :: t)
    | none => []
  | _, _ => []
def recB (l : List UInt8) : List (List Int) := recE 60 (splitC 10 [] l)
theorem recE_zero (L : List (List UInt8)) : recE 0 L = [] := by cases L <;> rfl
theorem recE_one (n : Nat) (x : List UInt8) : recE n [x] = [] := by cases n <;> rfl
theorem recE_nil (n : Nat) : recE n [] = [] := by cases n <;> rfl
theorem recE_no {n : Nat} {x : List UInt8} {t : List (List UInt8)} (h : parE x = none) : recE n (x :: t) = [] := by
  cases n with
  | zero => exact recE_zero _
  | succ n => cases t with
    | nil => rfl
    | cons y t => show (match parE x with | some e => e :: recE n (y :: t) | none => []) = []; rw [h]
theorem recE_yes {n : Nat} {x : List UInt8} {t : List (List UInt8)} {e : List Int} (h : parE x = some e) (ht : t ≠ []) : recE (n + 1) (x :: t) = e :: recE n t := by
  cases t with
  | nil => exact absurd rfl ht
  | cons y t => show (match parE x with | some e => e :: recE n (y :: t) | none => []) = _; rw [h]
def CutPost (c : UInt8) (l : List UInt8) (w : World) (e : Ending) (w' : World) : Prop := Below w.heap.size w w' ∧ ((splitC c [] l = [l] ∧ e = .returned (.tuple #[.string (TB l), .string (TB []), .bool false])) ∨
  ∃ a r, splitC c [] l = a :: splitC c [] r ∧ r.length < l.length ∧ a.length ≤ l.length ∧ e = .returned (.tuple #[.string (TB a), .string (TB r), .bool true]))
theorem Cut_any (c : UInt8) (l : List UInt8) (sep : ByteArray) (hsep : sep = TB [c]) (s : ByteArray) (hs : s = TB l) (w : World) (h : w.ShapedOpen Tryz.prog) (hl : l.length < 4294967281) :
    Calls Tryz.prog 39 #[.string s, .string sep] w fun e w' => CutPost c l w e w' := by
  subst hsep hs
  refine (Tryz.strings_Cut_shaped (TB l) (TB [c]) w h (by rw [TB_size]; exact hl)).mono ?_
  rintro e w' ⟨rfl, n, rfl⟩
  refine ⟨(Qt.one w n).below _, ?_⟩
  have e1 : (TB l).data.toList = l := by simp [TB]
  have e2 : (TB [c]).data.toList = [c] := by simp [TB]
  rw [e1, e2]
  rcases splitC_ix c l [] with ⟨h1, h2⟩ | ⟨i, h1, h2⟩
  · left
    refine ⟨by simpa using h2, ?_⟩
    unfold Lib.cut
    rw [h1, if_neg (by omega)]
    rfl
  · right
    have hi : i < l.length := by
      rcases Nat.lt_or_ge i l.length with h9 | h9
      · exact h9
      · exfalso
        have h3 := splitC_len c l []
        rw [h2, List.drop_of_length_le (by omega)] at h3
        have h4 : (splitC c [] []).length = 1 := rfl
        have h5 := h2
        rw [List.take_of_length_le h9] at h5
        have key : ∀ (l : List UInt8), Lib.index l [c] = -1 ∨ Lib.index l [c] < l.length := by
          intro l
          induction l with
          | nil => left; simp [Lib.index]
          | cons b t ih =>
            by_cases hbc : b = c
            · subst hbc; right; simp [Lib.index, List.isPrefixOf]
            · have hp : ([c] : List UInt8).isPrefixOf (b :: t) = false := by simp [List.isPrefixOf, Ne.symm hbc]
              have hix : Lib.index (b :: t) [c] = if Lib.index t [c] == -1 then -1 else Lib.index t [c] + 1 := by rw [Lib.index, hp]; simp
              rw [hix]
              rcases ih with h | h
              · left; rw [h]; rfl
              · by_cases h7 : Lib.index t [c] = -1
                · left; rw [h7]; rfl
                · right; rw [if_neg (by simpa using h7), List.length_cons]; omega
        rcases key l with h6 | h6
        · rw [h1] at h6; omega
        · rw [h1] at h6; omega
    refine ⟨l.take i, l.drop (i + 1), by simpa using h2, by rw [List.length_drop]; omega, by rw [List.length_take]; omega, ?_⟩
    unfold Lib.cut
    rw [h1, if_pos (by omega), show ((i : Int)).toNat = i from rfl]
    rfl
/-- wpList_appendT, the block of what is appended named -/
theorem wpList_appendTB {P : Program} {t e : TypeId} {z : Value} {k bytes : Nat} (S : SlT P t e z k bytes) {ops : Array Oper} {rest : List Oper} {o : Oper} {a : Act} {Q : Exit → Act → World → Prop} (w : World) (hgd : o.guard = none) (s x : Operand)
    (ho : o.op = .call { callee := .builtin .append, args := #[s, x], argTypes := #[t, t] }) (y : List Int) (cs : Array Value) (hcs : cs = (y.map (Value.int .i64)).toArray) (N : Nat) (hN : N = w.heap.size)
    (base : Nat) (v : Value) (xss : List (List Int)) (hs : a.eval s = v) (hx : a.eval x = .slice (some ⟨N, 0, none⟩) 1 1) (hown : OwnT w base e k v xss) (hy : y.length = k ∧ ∀ n ∈ y, I64 n)
    (hn : (xss.length + 1) * bytes ≤ 140737488355328) (hn2 : xss.length ≤ 1099511627776) (hb : base ≤ w.heap.size)
    (h : ∀ v' w', OwnT w' base e k v' (xss ++ [y]) → Grew base v v' w w' → wpList P ops Q rest (a.put o.dst v') w') :
    wpList P ops Q (o :: rest) a (w.alloc (.cells cs e)) := by
  subst hN
  exact wpList_appendT S w hgd s x ho y cs hcs base v xss hs hx hown hy hn hn2 hb h
set_option maxRecDepth 100000 in
set_option maxHeartbeats 4000000 in
theorem RecoverBookI_any (l : List UInt8) (s : ByteArray) (hs : s = TB l) (w : World) (hl : l.length ≤ 4294967200) (hsh : w.ShapedOpen Tryz.prog) :
    Calls Tryz.prog 11 #[.string s] w fun e w' => ∃ v, e = .returned v ∧ OwnT w' w.heap.size 40 7 v (recB l) ∧ Below w.heap.size w w' := by
  have HS := Lib.hid hs
  have HSH := Lib.hid hsh
  obtain ⟨R, hR⟩ : ∃ R, R = recB l := ⟨_, rfl⟩
  rw [← hR]
  have HR := Lib.hid hR
  clear hs hsh hR
  go_enter Tryz.func11, Tryz.ntmps11
  go_wp2
  go_loopw [0, 3, 4, 5, 6, 7, 8] (fun sv o _ _ _ _ _ wr => ∃ (r : List UInt8) (z : ByteArray) (L : List (List Int)), sv = .string z ∧ Hid (z = TB r) ∧ r.length ≤ l.length ∧ L.length ≤ 60 ∧ Hid (L ++ recE (60 - L.length) (splitC 10 [] r) = R) ∧ Hid (OwnT wr w.heap.size 40 7 o L) ∧ Hid (Below w.heap.size w wr) ∧ w.heap.size ≤ wr.heap.size) (fun _ o _ _ _ _ _ _ => 60 - lenV o)
  case atStart => exact ⟨l, s, [], rfl, HS.out, Nat.le_refl _, Nat.zero_le _, by show _ = _; rw [HR.out]; rfl, OwnT.nil _ _ _ _, Below.refl _ _, Nat.le_refl _⟩
  case round =>
    obtain ⟨r, z, L, rfl, HZ, hrl, hL, HD, HO, HB, hzr⟩ := hrel
    obtain ⟨wo, rfl⟩ : ∃ wo : World, wo = wr := ⟨_, rfl⟩
    obtain ⟨Ao, co, rfl, hco, hco2⟩ := HO.out.form
    by_cases hlt : L.length < 60
    rotate_left
    · have hnl : ¬ (L.length : Int) < 60 := by omega
      have HE := Lib.hid (show L = R by
        have h9 := HD.out
        rw [show 60 - L.length = 0 by omega, recE_zero, List.append_nil] at h9
        exact h9)
      clear HD
      go_wp2
      go_ret
      refine ⟨_, rfl, ?_, HB.out⟩
      rw [← HE.out]
      exact HO.out
    have hlt' : (L.length : Int) < 60 := by omega
    obtain ⟨n, hn⟩ : ∃ n, n = L.length := ⟨_, rfl⟩
    have HN := Lib.hid hn
    rw [← hn] at hlt hlt' hco hL HD ⊢
    rw [show Value.slice Ao L.length co = Value.slice Ao n co by rw [hn]] at HO
    clear hn
    go_wp2_with fail
    refine (Cut_any 10 r _ rfl z HZ.out wo (shaped_below HSH.out HB.out) (by omega)).mono ?_
    intro e w2 hcp
    obtain ⟨b2, ⟨h1, rfl⟩ | ⟨a, r2, h1, h2, h3, rfl⟩⟩ := hcp
    · have HE := Lib.hid (show L = R by
        have h9 := HD.out
        rw [h1, recE_one, List.append_nil] at h9
        exact h9)
      have HB2 := Lib.hid (HB.out.trans (b2.mono hzr))
      have HO2 := Lib.hid (HO.out.kept (.of_below b2 (Nat.le_refl _)))
      clear HD h1 b2
      go_wp2
      go_ret
      refine ⟨_, rfl, ?_, HB2.out⟩
      rw [← HE.out]
      exact HO2.out
    have HB2 := Lib.hid (HB.out.trans (b2.mono hzr))
    have HO2 := Lib.hid (HO.out.kept (.of_below b2 (Nat.le_refl _)))
    have hz2 : w.heap.size ≤ w2.heap.size := HB2.out.size
    obtain ⟨za, hza⟩ : ∃ z, z = TB a := ⟨_, rfl⟩
    obtain ⟨zr, hzr2⟩ : ∃ z, z = TB r2 := ⟨_, rfl⟩
    have HZA := Lib.hid hza
    have HZR := Lib.hid hzr2
    rw [← hza, ← hzr2]
    have HH1 := Lib.hid h1
    clear b2 hza hzr2 h1 HO
    go_wp2_with fail
    refine (ParseEventI_any a za HZA.out w2 (by omega) (shaped_below HSH.out HB2.out)).mono ?_
    intro e w3 hpp
    obtain ⟨b3, k, e1, e2, e3, e4, e5, e6, ok, rfl, hE, hO, hrg⟩ := hpp.form
    have HB3 := Lib.hid (HB2.out.trans (b3.mono hz2))
    have HO3 := Lib.hid (HO2.out.kept (.of_below b3 (Nat.le_refl _)))
    have hz3 : w.heap.size ≤ w3.heap.size := HB3.out.size
    have bx : Below w3.heap.size w3 (w3.alloc (.cells #[.int .i64 k, .int .i64 e1, .int .i64 e2, .int .i64 e3, .int .i64 e4, .int .i64 e5, .int .i64 e6] 40)) := (Below.refl _ _).alloc (Nat.le_refl _) _
    have HBX := Lib.hid (HB3.out.trans (bx.mono hz3))
    have HOX := Lib.hid (HO3.out.kept (.of_below bx (Nat.le_refl _)))
    clear hpp b3 bx HO2
    cases hpa : parE a with
    | none =>
      rw [hpa] at hO
      obtain rfl : ok = false := hO
      have HE := Lib.hid (show L = R by
        have h9 := HD.out
        rw [HH1.out, recE_no hpa, List.append_nil] at h9
        exact h9)
      clear HD hpa hE hrg
      go_wp2
      go_ret
      refine ⟨_, rfl, ?_, HBX.out⟩
      rw [← HE.out]
      exact HOX.out
    | some ev =>
      rw [hpa] at hO hE
      obtain rfl : ok = true := hO
      have HD2 := Lib.hid (show (L ++ [[k, e1, e2, e3, e4, e5, e6]]) ++ recE (60 - (L ++ [[k, e1, e2, e3, e4, e5, e6]]).length) (splitC 10 [] r2) = R by
        have h9 := HD.out
        rw [HH1.out, show 60 - n = (60 - (n + 1)) + 1 by omega, recE_yes hpa (splitC_ne _ _ _)] at h9
        rw [List.length_append, List.length_singleton, ← HN.out, List.append_assoc, show [k, e1, e2, e3, e4, e5, e6] = ev from hE]
        exact h9)
      have HY := Lib.hid (show ([k, e1, e2, e3, e4, e5, e6] : List Int).length = 7 ∧ ∀ n ∈ [k, e1, e2, e3, e4, e5, e6], I64 n from ⟨rfl, fun x hx => by have := hrg x hx; exact ⟨by omega, by omega⟩⟩)
      have hL60 : (L.length + 1) * 56 ≤ 140737488355328 := by rw [← HN.out]; omega
      have hL61 : L.length ≤ 1099511627776 := by rw [← HN.out]; omega
      have HL := Lib.hid (And.intro hL60 hL61)
      clear HD hpa hE hrg hL60 hL61
      go_wp2_with (at_builtin; refine wpList_appendTB SlEvent1 _ rfl (.tmp 27) (.tmp 29) rfl [k, e1, e2, e3, e4, e5, e6] _ rfl (w3.heap.size + 1) (by simp) w.heap.size _ L rfl rfl HOX.out HY.out HL.out.1 HL.out.2 (by simp; omega) ?_; intro v6 w6 ho6 hg6)
      have HO6 := Lib.hid ho6
      have HB6 := Lib.hid (HBX.out.trans hg6.below)
      obtain ⟨A6, c6, rfl, hc6, hc62⟩ := ho6.form
      have hl6 : (L ++ [[k, e1, e2, e3, e4, e5, e6]]).length = n + 1 := by rw [List.length_append, List.length_singleton, ← HN.out]
      have HL6 := Lib.hid hl6
      rw [hl6] at HO6 hc6 ⊢
      clear ho6 hg6 hl6
      go_roundw
      case rel => exact ⟨r2, zr, _, rfl, HZR.out, by omega, by rw [HL6.out]; omega, HD2.out, HO6.out, HB6.out, HB6.out.size⟩
      case measure => simp [lenV]; omega
set_option maxRecDepth 100000 in
set_option maxHeartbeats 4000000 in
theorem recoverBookS_any (l : List UInt8) (s : ByteArray) (hs : s = TB l) (w : World) (hl : l.length ≤ 4294967200) :
    Calls Tryz.prog 50 #[.string s] w fun e w' => ∃ v, e = .returned v ∧ OwnT w' w.heap.size 40 7 v (recB l) ∧ Below w.heap.size w w' := by
  have HS := Lib.hid hs
  obtain ⟨R, hR⟩ : ∃ R, R = recB l := ⟨_, rfl⟩
  rw [← hR]
  have HR := Lib.hid hR
  clear hs hR
  have b1 : Below w.heap.size w (w.alloc (.cells #[] 40)) := (Below.refl _ _).alloc (Nat.le_refl _) _
  have HO0 := Lib.hid (OwnT.empty w w.heap.size 40 7 (Nat.le_refl _))
  have HB0 := Lib.hid b1
  have hz0 : w.heap.size ≤ (w.alloc (.cells #[] 40)).heap.size := b1.size
  clear b1
  go_enter Tryz.func50, Tryz.ntmps50
  go_wp2_with fail
  refine (splitAt_any 10 10 rfl l s HS.out _ (by omega)).mono ?_
  rintro e w2 ⟨vw, rfl, hw2, b2⟩
  have HB2 := Lib.hid (HB0.out.trans (b2.mono hz0))
  have HO2 := Lib.hid (HO0.out.kept (.of_below b2 (Nat.le_refl _)))
  have hz2 : w.heap.size ≤ w2.heap.size := HB2.out.size
  have HW2 := Lib.hid (hw2.base hz0)
  obtain ⟨Aw, cw, rfl, hcw, hcw2⟩ := hw2.form
  obtain ⟨W, hW⟩ : ∃ W, W = splitC 10 [] l := ⟨_, rfl⟩
  have HML := Lib.hid (show ∀ j, (gs W j).length ≤ l.length from fun j => by rw [hW]; exact split_memlen)
  have HWR := Lib.hid (show recE 60 W = R by rw [hW, HR.out]; rfl)
  have hWL : W.length ≤ l.length + 1 := by rw [hW, splitC_len]; have : l.count 10 ≤ l.length := List.count_le_length; omega
  rw [← hW] at HW2 hcw ⊢
  clear b2 hw2 HO0 HB0 hW
  go_wp2
  go_loopw [3, 5, 6, 7] (fun o i _ _ wr => ∃ (L : List (List Int)), L.length ≤ 60 ∧ L.length ≤ W.length ∧ i = .int .i64 (L.length : Nat) ∧ Hid (L ++ recE (60 - L.length) (W.drop L.length) = R) ∧ Hid (OwnT wr w.heap.size 40 7 o L) ∧ Hid (OwnS wr w.heap.size 9 (.slice Aw W.length cw) W) ∧ Hid (Below w.heap.size w wr) ∧ w.heap.size ≤ wr.heap.size) (fun _ i _ _ _ => W.length - (intOf i).toNat)
  case atStart => exact ⟨[], Nat.zero_le _, Nat.zero_le _, rfl, HWR.out, HO2.out, HW2.out, HB2.out, hz2⟩
  case round =>
    obtain ⟨L, hL, hLW, rfl, HD, HO, HW, HB, hzr⟩ := hrel
    clear HO2 HW2 HB2
    obtain ⟨wo, rfl⟩ : ∃ wo : World, wo = wr := ⟨_, rfl⟩
    obtain ⟨Ao, co, rfl, hco, hco2⟩ := HO.out.form
    obtain ⟨n, hn⟩ : ∃ n, n = L.length := ⟨_, rfl⟩
    have HN := Lib.hid hn
    rw [← hn] at hco hL hLW HD ⊢
    rw [show Value.slice Ao L.length co = Value.slice Ao n co by rw [hn]] at HO
    clear hn
    have HBB := HB
    have gn : IntKind.i64.wrap ((n : Int) + 1) = (n : Int) + 1 := IntWalk.i64_in _ (by omega)
    by_cases hlt : n + 1 < W.length
    rotate_left
    · have hni : ¬ ((n : Int) + 1) < (W.length : Int) := by omega
      have HE := Lib.hid (show L = R by
        have h9 := HD.out
        rcases Nat.lt_or_ge n W.length with h8 | h8
        · rw [List.drop_eq_getElem_cons h8, List.drop_of_length_le (by omega), recE_one, List.append_nil] at h9
          exact h9
        · rw [List.drop_of_length_le h8, recE_nil, List.append_nil] at h9
          exact h9)
      clear HD
      go_wp2
      go_ret
      refine ⟨_, rfl, ?_, HBB.out⟩
      rw [← HE.out]
      exact HO.out
    have hni : ((n : Int) + 1) < (W.length : Int) := by omega
    have n0 : (0 : Int) ≤ (n : Int) := by omega
    have n1 : (n : Int) < (W.length : Int) := by omega
    obtain ⟨bw, ow, hAw, hbw1, hbw2, cz⟩ := HW.out.strs.cell (k := n) (by omega)
    subst hAw
    obtain ⟨x, hx⟩ : ∃ x, x = gs W n := ⟨_, rfl⟩
    obtain ⟨zx, hzx⟩ : ∃ z, z = TB x := ⟨_, rfl⟩
    have HZX := Lib.hid hzx
    have hxl : x.length ≤ l.length := by rw [hx]; exact HML.out n
    have HDR := Lib.hid (show W.drop n = x :: W.drop (n + 1) by rw [hx, gs_eq (by omega)]; exact List.drop_eq_getElem_cons (by omega))
    have HNE := Lib.hid (show W.drop (n + 1) ≠ [] from fun e => by have := congrArg List.length e; rw [List.length_drop] at this; simp at this; omega)
    rw [← hx, ← hzx] at cz
    clear hx hzx
    go_wp2_with fail
    refine (parseEventS_any x zx HZX.out wo (by omega)).mono ?_
    intro e w3 hpp
    obtain ⟨b3, k, e1, e2, e3, e4, e5, e6, ok, rfl, hE, hO, hrg⟩ := hpp.form
    have HW3 := Lib.hid (HW.out.kept (.of_below b3 (Nat.le_refl _)))
    have HB3 := Lib.hid (HB.out.trans (b3.mono hzr))
    have HO3 := Lib.hid (HO.out.kept (.of_below b3 (Nat.le_refl _)))
    have hz3 : wo.heap.size ≤ w3.heap.size := b3.size
    have bx : Below w3.heap.size w3 (w3.alloc (.cells #[.int .i64 k, .int .i64 e1, .int .i64 e2, .int .i64 e3, .int .i64 e4, .int .i64 e5, .int .i64 e6] 40)) := (Below.refl _ _).alloc (Nat.le_refl _) _
    have HBX := Lib.hid (HB3.out.trans (bx.mono (by omega)))
    have HOX := Lib.hid (HO3.out.kept (.of_below bx (Nat.le_refl _)))
    have HBBX := HBX
    have HWX := Lib.hid (HW3.out.kept (.of_below bx (Nat.le_refl _)))
    clear hpp b3 bx HO HB3 HW HW3
    cases hpa : parE x with
    | none =>
      rw [hpa] at hO
      obtain rfl : ok = false := hO
      have HE := Lib.hid (show L = R by
        have h9 := HD.out
        rw [HDR.out, recE_no hpa, List.append_nil] at h9
        exact h9)
      clear HD hpa hE hrg
      go_wp2
      go_ret
      refine ⟨_, rfl, ?_, HBBX.out⟩
      rw [← HE.out]
      exact HOX.out
    | some ev =>
      rw [hpa] at hO hE
      obtain rfl : ok = true := hO
      by_cases h60 : n = 60
      · have e60 : ((n : Int) == 60) = true := beq_t (by omega)
        have HE := Lib.hid (show L = R by
          have h9 := HD.out
          rw [show 60 - n = 0 by omega, recE_zero, List.append_nil] at h9
          exact h9)
        clear HD hpa hE hrg h60
        go_wp2
        go_ret
        refine ⟨_, rfl, ?_, HBBX.out⟩
        rw [← HE.out]
        exact HOX.out
      have e60 : ((n : Int) == 60) = false := beq_f (by omega)
      have HD2 := Lib.hid (show (L ++ [[k, e1, e2, e3, e4, e5, e6]]) ++ recE (60 - (L ++ [[k, e1, e2, e3, e4, e5, e6]]).length) (W.drop (L ++ [[k, e1, e2, e3, e4, e5, e6]]).length) = R by
        have h9 := HD.out
        rw [HDR.out, show 60 - n = (60 - (n + 1)) + 1 by omega, recE_yes hpa HNE.out] at h9
        rw [List.length_append, List.length_singleton, ← HN.out, List.append_assoc, show [k, e1, e2, e3, e4, e5, e6] = ev from hE]
        exact h9)
      have HY := Lib.hid (show ([k, e1, e2, e3, e4, e5, e6] : List Int).length = 7 ∧ ∀ n ∈ [k, e1, e2, e3, e4, e5, e6], I64 n from ⟨rfl, fun x hx => by have := hrg x hx; exact ⟨by omega, by omega⟩⟩)
      have hL60 : (L.length + 1) * 56 ≤ 140737488355328 := by rw [← HN.out]; omega
      have hL61 : L.length ≤ 1099511627776 := by rw [← HN.out]; omega
      have HL := Lib.hid (And.intro hL60 hL61)
      clear HD hpa hE hrg hL60 hL61
      go_wp2_with (at_builtin; refine wpList_appendTB SlEvent1 _ rfl (.tmp 34) (.tmp 36) rfl [k, e1, e2, e3, e4, e5, e6] _ rfl (w3.heap.size + 1) (by simp) w.heap.size _ L rfl rfl HOX.out HY.out HL.out.1 HL.out.2 (by simp; omega) ?_; intro v6 w6 ho6 hg6)
      have HO6 := Lib.hid ho6
      have HB6 := Lib.hid (HBX.out.trans hg6.below)
      have HW6 := Lib.hid (HWX.out.keptBlock fun g hg => hg6.other g (HWX.out.lt g hg).2 fun e => own_types HOX.out.1 HWX.out (by decide) e.symm hg)
      obtain ⟨A6, c6, rfl, hc6, hc62⟩ := ho6.form
      have hl6 : (L ++ [[k, e1, e2, e3, e4, e5, e6]]).length = n + 1 := by rw [List.length_append, List.length_singleton, ← HN.out]
      have HL6 := Lib.hid hl6
      rw [hl6] at HO6 hc6 ⊢
      clear ho6 hg6 hl6
      go_roundw
      case rel => exact ⟨_, by rw [HL6.out]; omega, by rw [HL6.out]; omega, by rw [HL6.out]; go_num, HD2.out, HO6.out, HW6.out, HB6.out, HB6.out.size⟩
      case measure => simp [intOf]; omega
end Go.Proofs.YtkgepklapglmdaaGreatDoor
