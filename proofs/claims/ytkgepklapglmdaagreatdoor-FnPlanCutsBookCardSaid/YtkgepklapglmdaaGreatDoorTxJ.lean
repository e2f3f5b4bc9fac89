/-
  Texts merged into one: what each function does, and plain lemmas. No condition.
-/
import Derived.Test.YtkgepklapglmdaaGreatDoorTxX
import Derived.Test.YtkgepklapglmdaaGreatDoorEvA
namespace Go.Proofs.YtkgepklapglmdaaGreatDoor
open Go.RowKit
attribute [local go_sem ↓] Go.wp_at_zero Go.wp_at_succ

def lenV : Value → Nat
  | .slice _ n _ => n
  | _ => 0
/-- the events of whole lines, at most n -/
def recE : Nat → List (List UInt8) → List (List Int)
  | n + 1, x :: y :: t => match parE x with
    | some e => e :: recE n (y :: t)
    | none => []
  | _, _ => []
def recB (l : List UInt8) : List (List Int) := recE 60 (splitC 10 [] l)
theorem recE_zero (L : List (List UInt8)) : recE 0 L = [] := by cases L <;> rfl
theorem recE_one (n : Nat) (x : List UInt8) : recE n [x] = [] := by cases n <;> rfl
theorem recE_no {n : Nat} {x : List UInt8} {t : List (List UInt8)} (h : parE x = none) : recE n (x :: t) = [] := by
  cases n with
  | zero => exact recE_zero _
  | succ n => cases t with
    | nil => rfl
    | cons y t => show (match parE x with | some e => e :: recE n (y :: t) | none => []) = []; rw [h]
theorem recE_yes {n : Nat} {x : List UInt8} {t : List (List UInt8)} {e : List Int} (h : parE x = some e) (ht : t ≠ []) : recE (n + 1) (x :: t) = e :: recE n t := by
  cases t with
  | nil => exact absurd rfl ht
  | cons y t => show (match parE x with | some e => e :: recE n (y :: t) | none => []) = _; rw [h]
def CutPost (c : UInt8) (l : List UInt8) (w : World) (e : Ending) (w' : World) : Prop := Below w.heap.size w w' ∧ ((splitC c [] l = [l] ∧ e = .returned (.tuple #[.string (TB l), .string (TB []), .bool false])) ∨
  ∃ a r, splitC c [] l = a :: splitC c [] r ∧ r.length < l.length ∧ a.length ≤ l.length ∧ e = .returned (.tuple #[.string (TB a), .string (TB r), .bool true]))
theorem Cut_any (c : UInt8) (l : List UInt8) (sep : ByteArray) (hsep : sep = TB [c]) (s : ByteArray) (hs : s = TB l) (w : World) (h : w.ShapedOpen Tryz.prog) (hl : l.length < 4294967281) :
    Calls Tryz.prog 39 #[.string s, .string sep] w fun e w' => CutPost c l w e w' := by
  subst hsep hs
  refine (Tryz.strings_Cut_shaped (TB l) (TB [c]) w h (by rw [TB_size]; exact hl)).mono ?_
  rintro e w' ⟨rfl, n, rfl⟩
  refine ⟨(Qt.one w n).below _, ?_⟩
  have e1 : (TB l).data.toList = l := by simp [TB]
  have e2 : (TB [c]).data.toList = [c] := by simp [TB]
  rw [e1, e2]
  rcases splitC_ix c l [] with ⟨h1, h2⟩ | ⟨i, h1, h2⟩
  · left
    refine ⟨by simpa using h2, ?_⟩
    unfold Lib.cut
    rw [h1, if_neg (by omega)]
    rfl
  · right
    have hi : i < l.length := by
      rcases Nat.lt_or_ge i l.length with h9 | h9
      · exact h9
      · exfalso
        have h3 := splitC_len c l []
        rw [h2, List.drop_of_length_le (by omega)] at h3
        have h4 : (splitC c [] []).length = 1 := rfl
        have h5 := h2
        rw [List.take_of_length_le h9] at h5
        have key : ∀ (l : List UInt8), Lib.index l [c] = -1 ∨ Lib.index l [c] < l.length := by
          intro l
          induction l with
          | nil => left; simp [Lib.index]
          | cons b t ih =>
            by_cases hbc : b = c
            · subst hbc; right; simp [Lib.index, List.isPrefixOf]
            · have hp : ([c] : List UInt8).isPrefixOf (b :: t) = false := by simp [List.isPrefixOf, Ne.symm hbc]
              have hix : Lib.index (b :: t) [c] = if Lib.index t [c] == -1 then -1 else Lib.index t [c] + 1 := by rw [Lib.index, hp]; simp
              rw [hix]
              rcases ih with h | h
              · left; rw [h]; rfl
              · by_cases h7 : Lib.index t [c] = -1
                · left; rw [h7]; rfl
                · right; rw [if_neg (by simpa using h7), List.length_cons]; omega
        rcases key l with h6 | h6
        · rw [h1] at h6; omega
        · rw [h1] at h6; omega
    refine ⟨l.take i, l.drop (i + 1), by simpa using h2, by rw [List.length_drop]; omega, by rw [List.length_take]; omega, ?_⟩
    unfold Lib.cut
    rw [h1, if_pos (by omega), show ((i : Int)).toNat = i from rfl]
    rfl
/-- wpList_appendT, the block of what is appended named -/
theorem wpList_appendTB {P : Program} {t e : TypeId} {z : Value} {k bytes : Nat} (S : SlT P t e z k bytes) {ops : Array Oper} {rest : List Oper} {o : Oper} {a : Act} {Q : Exit → Act → World → Prop} (w : World) (hgd : o.guard = none) (s x : Operand)
    (ho : o.op = .call { callee := .builtin .append, args := #[s, x], argTypes := #[t, t] }) (y : List Int) (cs : Array Value) (hcs : cs = (y.map (Value.int .i64)).toArray) (N : Nat) (hN : N = w.heap.size)
    (base : Nat) (v : Value) (xss : List (List Int)) (hs : a.eval s = v) (hx : a.eval x = .slice (some ⟨N, 0, none⟩) 1 1) (hown : OwnT w base e k v xss) (hy : y.length = k ∧ ∀ n ∈ y, I64 n)
    (hn : (xss.length + 1) * bytes ≤ 140737488355328) (hn2 : xss.length ≤ 1099511627776) (hb : base ≤ w.heap.size)
    (h : ∀ v' w', OwnT w' base e k v' (xss ++ [y]) → Grew base v v' w w' → wpList P ops Q rest (a.put o.dst v') w') :
    wpList P ops Q (o :: rest) a (w.alloc (.cells cs e)) := by
  subst hN
  exact wpList_appendT S w hgd s x ho y cs hcs base v xss hs hx hown hy hn hn2 hb h
set_option maxRecDepth 100000 in
set_option maxHeartbeats 4000000 in
theorem RecoverBookI_any (l : List UInt8) (s : ByteArray) (hs : s = TB l) (w : World) (hl : l.length ≤ 4294967200) (hsh : w.ShapedOpen Tryz.prog) :
    Calls Tryz.prog 11 #[.string s] w fun e w' => ∃ v, e = .returned v ∧ OwnT w' w.heap.size 40 7 v (recB l) ∧ Below w.heap.size w w' := by
  have HS := Lib.hid hs
  have HSH := Lib.hid hsh
  obtain ⟨R, hR⟩ : ∃ R, R = recB l := ⟨_, rfl⟩
  rw [← hR]
  have HR := Lib.hid hR
  clear hs hsh hR
  go_enter Tryz.func11, Tryz.ntmps11
  go_wp2
  go_loopw [0, 3, 4, 5, 6, 7, 8] (fun sv o _ _ _ _ _ wr => ∃ (r : List UInt8) (z : ByteArray) (L : List (List Int)), sv = .string z ∧ Hid (z = TB r) ∧ r.length ≤ l.length ∧ L.length ≤ 60 ∧ Hid (L ++ recE (60 - L.length) (splitC 10 [] r) = R) ∧ Hid (OwnT wr w.heap.size 40 7 o L) ∧ Hid (Below w.heap.size w wr) ∧ w.heap.size ≤ wr.heap.size) (fun _ o _ _ _ _ _ _ => 60 - lenV o)
  case atStart => exact ⟨l, s, [], rfl, HS.out, Nat.le_refl _, Nat.zero_le _, by show _ = _; rw [HR.out]; rfl, OwnT.nil _ _ _ _, Below.refl _ _, Nat.le_refl _⟩
  case round =>
    obtain ⟨r, z, L, rfl, HZ, hrl, hL, HD, HO, HB, hzr⟩ := hrel
    obtain ⟨wo, rfl⟩ : ∃ wo : World, wo = wr := ⟨_, rfl⟩
    obtain ⟨Ao, co, rfl, hco, hco2⟩ := HO.out.form
    by_cases hlt : L.length < 60
    rotate_left
    · have hnl : ¬ (L.length : Int) < 60 := by omega
      have HE := Lib.hid (show L = R by
        have h9 := HD.out
        rw [show 60 - L.length = 0 by omega, recE_zero, List.append_nil] at h9
        exact h9)
      clear HD
      go_wp2
      go_ret
      refine ⟨_, rfl, ?_, HB.out⟩
      rw [← HE.out]
      exact HO.out
    have hlt' : (L.length : Int) < 60 := by omega
    obtain ⟨n, hn⟩ : ∃ n, n = L.length := ⟨_, rfl⟩
    have HN := Lib.hid hn
    rw [← hn] at hlt hlt' hco hL HD ⊢
    rw [show Value.slice Ao L.length co = Value.slice Ao n co by rw [hn]] at HO
    clear hn
    go_wp2_with fail
    refine (Cut_any 10 r _ rfl z HZ.out wo (shaped_below HSH.out HB.out) (by omega)).mono ?_
    intro e w2 hcp
    obtain ⟨b2, ⟨h1, rfl⟩ | ⟨a, r2, h1, h2, h3, rfl⟩⟩ := hcp
    · have HE := Lib.hid (show L = R by
        have h9 := HD.out
        rw [h1, recE_one, List.append_nil] at h9
        exact h9)
      have HB2 := Lib.hid (HB.out.trans (b2.mono hzr))
      have HO2 := Lib.hid (HO.out.kept (.of_below b2 (Nat.le_refl _)))
      clear HD h1 b2
      go_wp2
      go_ret
      refine ⟨_, rfl, ?_, HB2.out⟩
      rw [← HE.out]
      exact HO2.out
    have HB2 := Lib.hid (HB.out.trans (b2.mono hzr))
    have HO2 := Lib.hid (HO.out.kept (.of_below b2 (Nat.le_refl _)))
    have hz2 : w.heap.size ≤ w2.heap.size := HB2.out.size
    obtain ⟨za, hza⟩ : ∃ z, z = TB a := ⟨_, rfl⟩
    obtain ⟨zr, hzr2⟩ : ∃ z, z = TB r2 := ⟨_, rfl⟩
    have HZA := Lib.hid hza
    have HZR := Lib.hid hzr2
    rw [← hza, ← hzr2]
    have HH1 := Lib.hid h1
    clear b2 hza hzr2 h1 HO
    go_wp2_with fail
    refine (ParseEventI_any a za HZA.out w2 (by omega) (shaped_below HSH.out HB2.out)).mono ?_
    intro e w3 hpp
    obtain ⟨b3, k, e1, e2, e3, e4, e5, e6, ok, rfl, hE, hO, hrg⟩ := hpp.form
    have HB3 := Lib.hid (HB2.out.trans (b3.mono hz2))
    have HO3 := Lib.hid (HO2.out.kept (.of_below b3 (Nat.le_refl _)))
    have hz3 : w.heap.size ≤ w3.heap.size := HB3.out.size
    have bx : Below w3.heap.size w3 (w3.alloc (.cells #[.int .i64 k, .int .i64 e1, .int .i64 e2, .int .i64 e3, .int .i64 e4, .int .i64 e5, .int .i64 e6] 40)) := (Below.refl _ _).alloc (Nat.le_refl _) _
    have HBX := Lib.hid (HB3.out.trans (bx.mono hz3))
    have HOX := Lib.hid (HO3.out.kept (.of_below bx (Nat.le_refl _)))
    clear hpp b3 bx HO2
    cases hpa : parE a with
    | none =>
      rw [hpa] at hO
      obtain rfl : ok = false := hO
      have HE := Lib.hid (show L = R by
        have h9 := HD.out
        rw [HH1.out, recE_no hpa, List.append_nil] at h9
        exact h9)
      clear HD hpa hE hrg
      go_wp2
      go_ret
      refine ⟨_, rfl, ?_, HBX.out⟩
      rw [← HE.out]
      exact HOX.out
    | some ev =>
      rw [hpa] at hO hE
      obtain rfl : ok = true := hO
      have HD2 := Lib.hid (show (L ++ [[k, e1, e2, e3, e4, e5, e6]]) ++ recE (60 - (L ++ [[k, e1, e2, e3, e4, e5, e6]]).length) (splitC 10 [] r2) = R by
        have h9 := HD.out
        rw [HH1.out, show 60 - n = (60 - (n + 1)) + 1 by omega, recE_yes hpa (splitC_ne _ _ _)] at h9
        rw [List.length_append, List.length_singleton, ← HN.out, List.append_assoc, show [k, e1, e2, e3, e4, e5, e6] = ev from hE]
        exact h9)
      have HY := Lib.hid (show ([k, e1, e2, e3, e4, e5, e6] : List Int).length = 7 ∧ ∀ n ∈ [k, e1, e2, e3, e4, e5, e6], I64 n from ⟨rfl, fun x hx => by have := hrg x hx; exact ⟨by omega, by omega⟩⟩)
      have hL60 : (L.length + 1) * 56 ≤ 140737488355328 := by rw [← HN.out]; omega
      have hL61 : L.length ≤ 1099511627776 := by rw [← HN.out]; omega
      have HL := Lib.hid (And.intro hL60 hL61)
      clear HD hpa hE hrg hL60 hL61
      go_wp2_with (at_builtin; refine wpList_appendTB SlEvent1 _ rfl (.tmp 27) (.tmp 29) rfl [k, e1, e2, e3, e4, e5, e6] _ rfl (w3.heap.size + 1) (by simp) w.heap.size _ L rfl rfl HOX.out HY.out HL.out.1 HL.out.2 (by simp; omega) ?_; intro v6 w6 ho6 hg6)
      have HO6 := Lib.hid ho6
      have HB6 := Lib.hid (HBX.out.trans hg6.below)
      obtain ⟨A6, c6, rfl, hc6, hc62⟩ := ho6.form
      have hl6 : (L ++ [[k, e1, e2, e3, e4, e5, e6]]).length = n + 1 := by rw [List.length_append, List.length_singleton, ← HN.out]
      have HL6 := Lib.hid hl6
      rw [hl6] at HO6 hc6 ⊢
      clear ho6 hg6 hl6
      go_roundw
      case rel => exact ⟨r2, zr, _, rfl, HZR.out, by omega, by rw [HL6.out]; omega, HD2.out, HO6.out, HB6.out, HB6.out.size⟩
      case measure => simp [lenV]; omega
end Go.Proofs.YtkgepklapglmdaaGreatDoor

namespace Go.Proofs.YtkgepklapglmdaaGreatDoor
open Go.RowKit
attribute [local go_sem ↓] Go.wp_at_zero Go.wp_at_succ

/-! books -/
def fmtJ (evs : List (List Int)) : List UInt8 := evs.flatMap fun e => fmtE e ++ [10]
def okF (evs : List (List Int)) : Bool := evs.all fun e => !(fmtE e).isEmpty
def fmtB (evs : List (List Int)) : List UInt8 := if evs.length ≤ 60 ∧ okF evs = true then fmtJ evs else []
theorem fmtE_lenJ (ev : List Int) : (fmtE ev).length ≤ 100 := by
  unfold fmtE
  split
  · rename_i hall
    have h1 := wrd_len (gi ev 0)
    have h2 : ∀ ns : List Int, (∀ i, i < ns.length → 0 ≤ gi ns i ∧ gi ns i ≤ 999999) → (numsT ns).length ≤ 7 * ns.length := by
      intro ns
      induction ns with
      | nil => intro _; simp [numsT]
      | cons x t ih =>
        intro h
        have h3 := ih fun i hi => by have := h (i + 1) (by simp; omega); exact this
        have h4 : 0 ≤ x ∧ x ≤ 999999 := h 0 (by simp)
        have h5 := (dec_len (n := x.toNat) (by omega)).2
        have h6 : numsT (x :: t) = (32 :: Lib.decDigits x.toNat) ++ numsT t := by simp [numsT]
        rw [h6, List.length_append, List.length_cons, List.length_cons]
        omega
    have h3 := h2 (evN ev) (allR_iff.1 hall)
    have h4 := evN_len ev
    have h5 := idxK_len (gi ev 0)
    rw [List.length_append]
    omega
  · simp
theorem toList_isEmptyJ (z : ByteArray) (l : List UInt8) (h : z = TB l) : z.toList.isEmpty = l.isEmpty := by rw [h, TB_toList]
theorem fmtJ_take {evs : List (List Int)} {k : Nat} (h : k < evs.length) : fmtJ (evs.take (k + 1)) = fmtJ (evs.take k) ++ fmtE (gr evs k) ++ [10] := by
  unfold fmtJ
  rw [List.take_succ_eq_append_getElem h, List.flatMap_append, gr_eq h, List.append_assoc]
  simp
theorem fmtB_no {evs : List (List Int)} {k : Nat} (h : k < evs.length) (he : fmtE (gr evs k) = []) : fmtB evs = [] := by
  unfold fmtB
  rw [if_neg]
  rintro ⟨_, h2⟩
  unfold okF at h2
  rw [List.all_eq_true] at h2
  have := h2 (gr evs k) (by rw [gr_eq h]; exact List.getElem_mem h)
  rw [he] at this
  simp at this
theorem fmtB_long {evs : List (List Int)} (h : 60 < evs.length) : fmtB evs = [] := by unfold fmtB; rw [if_neg]; rintro ⟨h1, _⟩; omega
theorem fmtB_yes {evs : List (List Int)} (h : evs.length ≤ 60) (hk : ∀ k, k < evs.length → fmtE (gr evs k) ≠ []) : fmtB evs = fmtJ evs := by
  unfold fmtB
  rw [if_pos]
  refine ⟨h, ?_⟩
  unfold okF
  rw [List.all_eq_true]
  intro e he
  obtain ⟨k, hk', rfl⟩ := List.mem_iff_getElem.1 he
  have := hk k hk'
  rw [gr_eq hk'] at this
  simpa using this
theorem row7 {w : World} {lo hi : Nat} {v : Value} {evs : List (List Int)} (h : TS w lo hi 7 v evs) {k : Nat} (hk : k < evs.length) : gr evs k = [gi (gr evs k) 0, gi (gr evs k) 1, gi (gr evs k) 2, gi (gr evs k) 3, gi (gr evs k) 4, gi (gr evs k) 5, gi (gr evs k) 6] ∧ ∀ x ∈ gr evs k, I64 x := by
  have h1 := h.all (gr evs k) (by rw [gr_eq hk]; exact List.getElem_mem hk)
  exact ⟨list7 h1.1, h1.2⟩
/-! strings.Builder -/
theorem tBld : (Tryz.prog.info? 79).map (·.size) = some 2 := by kernel_rfl
theorem tBldL : liesAt Tryz.prog Tryz.prog.depth 79 (2 / Tryz.prog.cellsOf 79) 0 79 1 = true := by kernel_rfl
set_option maxRecDepth 100000 in
theorem copyCheck_any (B b : Nat) (bs : List Value) (w : World) (h : Lib.IsBuilder 79 5 B b bs w) :
    Calls Tryz.prog 82 #[.pointer (some ⟨b, 0, none⟩)] w fun e w' => e = .returned (.tuple #[]) ∧ Lib.BuilderAt 79 5 B b (.pointer (some ⟨b, 0, none⟩)) bs w' ∧ Below B w w' := by
  obtain ⟨j, hj, hjs⟩ := Option.map_eq_some_iff.1 tBld
  rcases h with h | h
  · have h0 := h.cell0
    have hsh := h.shape
    have hfz := h.frozen0
    have HH := Lib.hid h
    clear h
    go_enter Tryz.func82, Tryz.ntmps82
    go_wp2
    rw [Lib.run_to_unsafe w ⟨b, 0, none⟩ Tryz.underlying77 Tryz.underlying147 hj (by rw [hjs]; decide) hsh (Nat.zero_lt_succ 1)]
    simp only [Result.andThen]
    rw [Oper.upon_value]
    go_wp2
    rw [run_callFunc_extern Tryz.func113 (by kernel_rfl) (by kernel_rfl) (by kernel_rfl) (e := Extern.AbiNoEscape.same) (by kernel_rfl)]
    rw [Lib.run_noEscape]
    simp only [Result.andThen]
    rw [Oper.upon_value]
    go_wp2
    rw [Lib.run_from_unsafe w ⟨b, 0, none⟩ Tryz.underlying147 Tryz.underlying77 hj hsh tBldL]
    simp only [Result.andThen]
    rw [Oper.upon_value]
    go_wp2
    go_end0
    exact ⟨rfl, HH.out.used _, (Below.refl B w).setCell (p := ⟨b, 0, none⟩) HH.out.1 _⟩
  · have h0 := h.cell0
    have HH := Lib.hid h
    clear h
    go_enter Tryz.func82, Tryz.ntmps82
    go_wp2
    rw [Lib.run_neq_ptr_same w _ Tryz.underlying77 hj]
    go_wp2
    go_end0
    exact ⟨rfl, HH.out, Below.refl B _⟩
theorem SlBy : SlT Tryz.prog 22 5 (.int .u8 0) 1 1 := ⟨Tryz.underlying22, by kernel_rfl, rfl, by omega⟩
end Go.Proofs.YtkgepklapglmdaaGreatDoor

namespace Go.Proofs.YtkgepklapglmdaaGreatDoor
open Go.RowKit
attribute [local go_sem ↓] Go.wp_at_zero Go.wp_at_succ

/-- a builder in block b that holds the bytes l -/
def Bld (B b : Nat) (l : List UInt8) (w : World) : Prop := Lib.IsBuilder 79 5 B b (Lib.byteCells l) w
theorem byteCells_app (a b : List UInt8) : Lib.byteCells (a ++ b) = Lib.byteCells a ++ Lib.byteCells b := by simp [Lib.byteCells]
theorem byteCells_len (a : List UInt8) : (Lib.byteCells a).length = a.length := by simp [Lib.byteCells]
theorem bldAt_below {T e B b : Nat} {p : Value} {bs : List Value} {w w' : World} (h : Lib.BuilderAt T e B b p bs w) (hb : Below w.heap.size w w') : Lib.BuilderAt T e B b p bs w' := by
  obtain ⟨hB, v, hbk, hown, hne⟩ := h
  have hlt : b < w.heap.size := Lib.BuilderAt.lt ⟨hB, v, hbk, hown, hne⟩
  exact ⟨hB, v, (hb.block b hlt).trans hbk, ownsRow_keptBlock hown fun g hg => hb.block g (hown.lt g hg).2, hne⟩
theorem Bld.below {B b : Nat} {l : List UInt8} {w w' : World} (h : Bld B b l w) (hb : Below w.heap.size w w') : Bld B b l w' := by
  rcases h with h | h
  · exact .inl (bldAt_below h hb)
  · exact .inr (bldAt_below h hb)
theorem Bld.fresh (w : World) : Bld w.heap.size w.heap.size [] (w.alloc (.cells #[.pointer none, .slice none 0 0] 79)) :=
  .inl ⟨Nat.le_refl _, .slice none 0 0, heap_alloc_new w _, World.ownsRow_nil _ _ _ _, by simp [Value.ownBlock]⟩
set_option maxRecDepth 100000 in
set_option maxHeartbeats 2000000 in
theorem WriteString_any (B b : Nat) (l m : List UInt8) (s : ByteArray) (hs : s = TB m) (w : World) (h : Bld B b l w) (hlen : l.length + m.length ≤ 1000000) (hBw : B ≤ w.heap.size) :
    Calls Tryz.prog 42 #[.pointer (some ⟨b, 0, none⟩), .string s] w fun e w' => e = .returned (.tuple #[.int .i64 s.size, .nilIface]) ∧ Bld B b (l ++ m) w' ∧ Below B w w' := by
  obtain ⟨i0, hi, hz0, hz1, hz2⟩ := info_parts SlBy.hi
  have HSC := Lib.hid (show Lib.byteCells l ++ Lib.strCells s = Lib.byteCells (l ++ m) by rw [byteCells_app, hs]; rfl)
  have hsm : s.size = m.length := by rw [hs, TB_size]
  have hbl := byteCells_len l
  have HSM := Lib.hid hsm
  have HBL := Lib.hid hbl
  clear hsm hs hbl
  go_enter Tryz.func42, Tryz.ntmps42
  go_wp2_with fail
  refine (copyCheck_any B b _ w h).mono ?_
  rintro e w1 ⟨rfl, h1, hb1⟩
  obtain ⟨hB, v, hbk, hown, hne⟩ := h1
  have c0 : w1.cell? ⟨b, 0, none⟩ = some (.pointer (some ⟨b, 0, none⟩)) := by rw [Lib.cell_of_heap hbk]; rfl
  have c1 : w1.cell? ⟨b, 1, none⟩ = some v := by rw [Lib.cell_of_heap hbk]; rfl
  have hsz1 := hb1.size
  go_wp2_with (at_builtin; refine Lib.wpList_append_own_string _ rfl _ _ 22 9 rfl B 5 i0 Tryz.underlying22 Tryz.underlying9 hi hz0 hz1 hz2 _ _ _ rfl hown s rfl ?c3 ?c4 ?c5 ?_)
  case c3 => have := HSM.out; have := HBL.out; unfold maxLen; omega
  case c4 => have := HSM.out; have := HBL.out; omega
  case c5 => omega
  intro v' w2 hown' hgrow _
  have hlt : b < w1.heap.size := by
    rcases Nat.lt_or_ge b w1.heap.size with h' | h'
    · exact h'
    · simp [Array.getElem?_eq_none h'] at hbk
  have hb2 : w2.heap[b]? = some (.cells #[.pointer (some ⟨b, 0, none⟩), v] 79 (0, 0)) := by
    rw [hgrow.block b hlt (fun e => hne e.symm)]
    exact hbk
  have d0 : w2.cell? ⟨b, 0, none⟩ = some (.pointer (some ⟨b, 0, none⟩)) := by rw [Lib.cell_of_heap hb2]; rfl
  have d1 : w2.cell? ⟨b, 1, none⟩ = some v := by rw [Lib.cell_of_heap hb2]; rfl
  have f1 : w2.frozen? ⟨b, 1, none⟩ = false := Lib.frozen_of_heap hb2 1
  obtain ⟨ao, n', cap, rfl⟩ : ∃ ao n' cap, v' = .slice ao n' cap := by
    rcases hown'.2 with ⟨hv, _⟩ | ⟨g, cap, cur, hv, _⟩
    · exact ⟨_, _, _, hv⟩
    · exact ⟨_, _, _, hv⟩
  have HP := Lib.hid (show Lib.BuilderAt 79 5 B b (.pointer (some ⟨b, 0, none⟩)) (Lib.byteCells (l ++ m)) (w2.setCell ⟨b, 1, none⟩ (.slice ao n' cap)) by
    rw [← HSC.out]
    exact Lib.BuilderAt.put (T := 79) (e := 5) hB hb2 (bs' := Lib.byteCells l ++ Lib.strCells s) (by simpa [Lib.strCells_length] using hown') (by decide))
  have HB9 := Lib.hid ((hb1.grown hgrow (by omega) (fun k hk => (hown.lt k hk).1)).setCell (p := ⟨b, 1, none⟩) hB (.slice ao n' cap))
  clear hown hown' hgrow hbk hb2 hne
  go_wp2
  go_ret2
  exact ⟨rfl, .inr HP.out, HB9.out⟩
set_option maxRecDepth 100000 in
set_option maxHeartbeats 2000000 in
theorem WriteByte_any (B b : Nat) (l : List UInt8) (c : UInt8) (cv : Int) (hcv : cv = (c.toNat : Int)) (w : World) (h : Bld B b l w) (hlen : l.length ≤ 1000000) (hBw : B ≤ w.heap.size) :
    Calls Tryz.prog 43 #[.pointer (some ⟨b, 0, none⟩), .int .u8 cv] w fun e w' => e = .returned .nilIface ∧ Bld B b (l ++ [c]) w' ∧ Below B w w' := by
  obtain ⟨i0, hi, hz0, hz1, hz2⟩ := info_parts SlBy.hi
  have HSC := Lib.hid (show Lib.byteCells l ++ [.int .u8 cv] = Lib.byteCells (l ++ [c]) by rw [byteCells_app, hcv]; rfl)
  have HBL := Lib.hid (byteCells_len l)
  clear hcv
  go_enter Tryz.func43, Tryz.ntmps43
  go_wp2_with fail
  refine (copyCheck_any B b _ w h).mono ?_
  rintro e w1 ⟨rfl, h1, hb1⟩
  obtain ⟨hB, v, hbk, hown, hne⟩ := h1
  have c0 : w1.cell? ⟨b, 0, none⟩ = some (.pointer (some ⟨b, 0, none⟩)) := by rw [Lib.cell_of_heap hbk]; rfl
  have c1 : w1.cell? ⟨b, 1, none⟩ = some v := by rw [Lib.cell_of_heap hbk]; rfl
  have hsz1 := hb1.size
  go_wp2_with (at_builtin; refine wpList_append_own _ rfl _ _ 22 rfl B 5 i0 (.int .u8 0) 1 1 Tryz.underlying22 hi hz0 hz1 hz2 rfl (by decide) _ _ _ rfl (hown.alloc _) ⟨w1.heap.size, 0, none⟩ 1 1 [.int .u8 cv] rfl rfl ?c1 ?c2 ?c3 ?c4 ?c5 ?_)
  case c1 =>
    intro j u hj
    match j, hj with
    | 0, hj => simp at hj; subst hj; simp [Addr.add]
  case c2 => intro u hu; simp at hu; subst hu; rfl
  case c3 => have := HBL.out; unfold maxLen; omega
  case c4 => have := HBL.out; omega
  case c5 => simp; omega
  intro v' w2 hown' hgrow _
  have hlt : b < w1.heap.size := by
    rcases Nat.lt_or_ge b w1.heap.size with h' | h'
    · exact h'
    · simp [Array.getElem?_eq_none h'] at hbk
  have hb2 : w2.heap[b]? = some (.cells #[.pointer (some ⟨b, 0, none⟩), v] 79 (0, 0)) := by
    rw [hgrow.block b (by simp; omega) (fun e => hne e.symm), Lib.alloc_old w1 _ b hlt]
    exact hbk
  have d0 : w2.cell? ⟨b, 0, none⟩ = some (.pointer (some ⟨b, 0, none⟩)) := by rw [Lib.cell_of_heap hb2]; rfl
  have d1 : w2.cell? ⟨b, 1, none⟩ = some v := by rw [Lib.cell_of_heap hb2]; rfl
  have f1 : w2.frozen? ⟨b, 1, none⟩ = false := Lib.frozen_of_heap hb2 1
  obtain ⟨ao, n', cap, rfl⟩ : ∃ ao n' cap, v' = .slice ao n' cap := by
    rcases hown'.2 with ⟨hv, _⟩ | ⟨g, cap, cur, hv, _⟩
    · exact ⟨_, _, _, hv⟩
    · exact ⟨_, _, _, hv⟩
  have HP := Lib.hid (show Lib.BuilderAt 79 5 B b (.pointer (some ⟨b, 0, none⟩)) (Lib.byteCells (l ++ [c])) (w2.setCell ⟨b, 1, none⟩ (.slice ao n' cap)) by
    rw [← HSC.out]
    exact Lib.BuilderAt.put (T := 79) (e := 5) hB hb2 (bs' := Lib.byteCells l ++ [.int .u8 cv]) (by simpa using hown') (by decide))
  have HB9 := Lib.hid (((hb1.alloc (by omega) _).grown hgrow (by simp; omega) (fun k hk => (hown.lt k hk).1)).setCell (p := ⟨b, 1, none⟩) hB (.slice ao n' cap))
  clear hown hown' hgrow hbk hb2 hne
  go_wp2
  go_ret
  exact ⟨rfl, .inr HP.out, HB9.out⟩
set_option maxRecDepth 100000 in
set_option maxHeartbeats 4000000 in
theorem FormatBookI_any (B lo hi : Nat) (v : Value) (evs : List (List Int)) (w : World) (hp : Pow B w) (h : TS w lo hi 7 v evs) (hhi : hi ≤ w.heap.size) :
    Calls Tryz.prog 12 #[v] w fun e w' => e = .returned (.string (TB (fmtB evs))) ∧ Below w.heap.size w w' := by
  obtain ⟨A, c, rfl, hc, hm⟩ := h.form
  obtain ⟨R, hR⟩ : ∃ R, R = fmtB evs := ⟨_, rfl⟩
  rw [← hR]
  have HR := Lib.hid hR
  have HH := Lib.hid h
  have HPW := Lib.hid hp
  clear hR h hp
  by_cases hl : 60 < evs.length
  · have hl' : (60 : Int) < (evs.length : Int) := by omega
    have HE := Lib.hid (show R = [] by rw [HR.out, fmtB_long hl])
    go_enter Tryz.func12, Tryz.ntmps12
    go_wp2
    go_ret
    exact ⟨by rw [HE.out]; rfl, Below.refl _ _⟩
  have hl' : ¬ (60 : Int) < (evs.length : Int) := by omega
  have bl : Below w.heap.size w (w.alloc (.cells #[.pointer none, .slice none 0 0] 79)) := (Below.refl _ _).alloc (Nat.le_refl _) _
  have HB0 := Lib.hid bl
  have HK0 := Lib.hid (Bld.fresh w)
  have hz0 : w.heap.size < (w.alloc (.cells #[.pointer none, .slice none 0 0] 79)).heap.size := by simp
  clear bl
  go_enter Tryz.func12, Tryz.ntmps12
  go_wp2
  go_loopw [5, 6, 12] (fun _ _ i wr => ∃ k : Nat, k ≤ evs.length ∧ i = .int .i64 k ∧ Hid (Bld w.heap.size w.heap.size (fmtJ (evs.take k)) wr) ∧ Hid (∀ j, j < k → fmtE (gr evs j) ≠ []) ∧ Hid (Below w.heap.size w wr) ∧ w.heap.size < wr.heap.size ∧ (fmtJ (evs.take k)).length ≤ 101 * k) (fun _ _ i _ => evs.length - (intOf i).toNat)
  case atStart => exact ⟨0, Nat.zero_le _, rfl, HK0.out, fun j hj => absurd hj (by omega), HB0.out, hz0, by simp [fmtJ]⟩
  case round =>
    obtain ⟨k, hk, rfl, HK, HD, HB, hzo, hjl⟩ := hrel
    clear HB0 HK0 hz0
    obtain ⟨wo, rfl⟩ : ∃ wo : World, wo = wr := ⟨_, rfl⟩
    by_cases hlt : k < evs.length
    rotate_left
    · have hnk : ¬ (k : Int) < (evs.length : Int) := by omega
      have HE := Lib.hid (show fmtJ (evs.take k) = R by rw [HR.out, fmtB_yes (by omega) (fun j hj => HD.out j (by omega)), List.take_of_length_le (by omega)])
      have HK2 := Lib.hid (show Bld w.heap.size w.heap.size R wo by rw [← HE.out]; exact HK.out)
      go_wp2_with fail
      refine (Tryz.Builder_String_any w.heap.size w.heap.size R wo HK2.out (by omega)).mono ?_
      rintro e w3 ⟨rfl, b3⟩
      have HB3 := Lib.hid (HB.out.trans b3)
      clear b3
      go_wp2
      go_ret
      exact ⟨rfl, HB3.out⟩
    have k0 : (0 : Int) ≤ (k : Int) := by omega
    have k1 : (k : Int) < (evs.length : Int) := by omega
    obtain ⟨b, o, hA, hb1, hb2, c0, c1, c2, c3, c4, c5, c6⟩ := (HH.out.below HB.out hhi).c7 hlt
    subst hA
    obtain ⟨hrow, hi64⟩ := row7 HH.out hlt
    have HEMP := Lib.hid (show fmtE (gr evs k) = [] → R = [] from fun h9 => by rw [HR.out, fmtB_no hlt h9])
    have HTK := Lib.hid (fmtJ_take hlt)
    have HD2 := Lib.hid (show fmtE (gr evs k) ≠ [] → ∀ j, j < k + 1 → fmtE (gr evs j) ≠ [] from fun h9 j hj => by
      rcases Nat.lt_or_ge j k with h' | h'
      · exact HD.out j h'
      · obtain rfl : j = k := by omega
        exact h9)
    obtain ⟨ev, hev⟩ : ∃ ev, ev = gr evs k := ⟨_, rfl⟩
    rw [← hev] at c0 c1 c2 c3 c4 c5 c6 hrow hi64 HEMP HTK HD2
    obtain ⟨x0, hx0⟩ : ∃ x, x = gi ev 0 := ⟨_, rfl⟩
    obtain ⟨x1, hx1⟩ : ∃ x, x = gi ev 1 := ⟨_, rfl⟩
    obtain ⟨x2, hx2⟩ : ∃ x, x = gi ev 2 := ⟨_, rfl⟩
    obtain ⟨x3, hx3⟩ : ∃ x, x = gi ev 3 := ⟨_, rfl⟩
    obtain ⟨x4, hx4⟩ : ∃ x, x = gi ev 4 := ⟨_, rfl⟩
    obtain ⟨x5, hx5⟩ : ∃ x, x = gi ev 5 := ⟨_, rfl⟩
    obtain ⟨x6, hx6⟩ : ∃ x, x = gi ev 6 := ⟨_, rfl⟩
    rw [← hx0, ← hx1, ← hx2, ← hx3, ← hx4, ← hx5, ← hx6] at hrow
    rw [← hx0] at c0
    rw [← hx1] at c1
    rw [← hx2] at c2
    rw [← hx3] at c3
    rw [← hx4] at c4
    rw [← hx5] at c5
    rw [← hx6] at c6
    have HROW := Lib.hid hrow
    have HI := Lib.hid hi64
    obtain ⟨T, hT⟩ : ∃ T, T = fmtE ev := ⟨_, rfl⟩
    have hTl : T.length ≤ 100 := by rw [hT]; exact fmtE_lenJ ev
    have HT := Lib.hid hT
    rw [← hT] at HEMP HTK HD2
    obtain ⟨zt, hzt⟩ : ∃ z, z = TB T := ⟨_, rfl⟩
    have HZT := Lib.hid hzt
    have HZI := Lib.hid (toList_isEmptyJ zt T hzt)
    clear hev hx0 hx1 hx2 hx3 hx4 hx5 hx6 hrow hi64 hT hzt
    go_wp2_with fail
    obtain ⟨w2, hw1⟩ : ∃ w2, w2 = wo.alloc (.cells #[.int .i64 x0, .int .i64 x1, .int .i64 x2, .int .i64 x3, .int .i64 x4, .int .i64 x5, .int .i64 x6] 40) := ⟨_, rfl⟩
    have y_0 : w2.cell? ⟨wo.heap.size, 0, none⟩ = some (.int .i64 x0) := by rw [hw1]; go_simp
    have y_1 : w2.cell? ⟨wo.heap.size, 1, none⟩ = some (.int .i64 x1) := by rw [hw1]; go_simp
    have y_2 : w2.cell? ⟨wo.heap.size, 2, none⟩ = some (.int .i64 x2) := by rw [hw1]; go_simp
    have y_3 : w2.cell? ⟨wo.heap.size, 3, none⟩ = some (.int .i64 x3) := by rw [hw1]; go_simp
    have y_4 : w2.cell? ⟨wo.heap.size, 4, none⟩ = some (.int .i64 x4) := by rw [hw1]; go_simp
    have y_5 : w2.cell? ⟨wo.heap.size, 5, none⟩ = some (.int .i64 x5) := by rw [hw1]; go_simp
    have y_6 : w2.cell? ⟨wo.heap.size, 6, none⟩ = some (.int .i64 x6) := by rw [hw1]; go_simp
    have by_ : Below wo.heap.size wo w2 := by rw [hw1]; exact (Below.refl _ _).alloc (Nat.le_refl _) _
    have zy_ : wo.heap.size < w2.heap.size := by rw [hw1]; simp
    have Hy_ := Lib.hid (show w2.heap[wo.heap.size]? = some (.cells #[.int .i64 x0, .int .i64 x1, .int .i64 x2, .int .i64 x3, .int .i64 x4, .int .i64 x5, .int .i64 x6] 40) by rw [hw1]; exact heap_alloc_new wo _)
    rw [← hw1]
    clear hw1
    have HB2 := Lib.hid (HB.out.trans (by_.mono (Nat.le_of_lt hzo)))
    have HK2 := Lib.hid (HK.out.below by_)
    have hz2 : w.heap.size < w2.heap.size := by have := by_.size; omega
    clear by_ Hy_ zy_ HK
    refine (FormatEventI_any B x0 x1 x2 x3 x4 x5 x6 w2 (HPW.out.below HB2.out) ev HROW.out HI.out).mono ?_
    rw [← HT.out, ← HZT.out]
    rintro e w3 ⟨rfl, b3⟩
    have HB3 := Lib.hid (HB2.out.trans (b3.mono (Nat.le_of_lt hz2)))
    have HK3 := Lib.hid (HK2.out.below b3)
    have hz3 : w.heap.size < w3.heap.size := by have := b3.size; omega
    clear b3 HK2
    cases hem : T.isEmpty
    rotate_left
    · have q1 : zt.toList.isEmpty = true := by rw [HZI.out, hem]
      have HE := Lib.hid (HEMP.out (by simpa using hem))
      clear hem HEMP HD2
      go_wp2
      go_ret
      exact ⟨by rw [HE.out]; rfl, HB3.out⟩
    have q1 : zt.toList.isEmpty = false := by rw [HZI.out, hem]
    have HD3 := Lib.hid (HD2.out (fun e => by rw [e] at hem; exact absurd hem (by simp)))
    clear hem HEMP HD2
    go_wp2_with fail
    refine (WriteString_any w.heap.size w.heap.size _ T zt HZT.out w3 HK3.out (by omega) (by omega)).mono ?_
    rintro e w4 ⟨rfl, hk4, b4⟩
    have HB4 := Lib.hid (HB3.out.trans b4)
    have HK4 := Lib.hid hk4
    have hz4 : w.heap.size < w4.heap.size := by
      rcases hk4 with h9 | h9
      · exact h9.lt
      · exact h9.lt
    clear b4 hk4 HK3
    go_wp2_with fail
    refine (WriteByte_any w.heap.size w.heap.size _ 10 10 rfl w4 HK4.out (by rw [List.length_append]; omega) (by omega)).mono ?_
    rintro e w5 ⟨rfl, hk5, b5⟩
    have HB5 := Lib.hid (HB4.out.trans b5)
    have HK5 := Lib.hid (show Bld w.heap.size w.heap.size (fmtJ (evs.take (k + 1))) w5 by rw [HTK.out]; exact hk5)
    have hlt5 : w.heap.size < w5.heap.size := by
      rcases hk5 with h9 | h9
      · exact h9.lt
      · exact h9.lt
    have hj5 : (fmtJ (evs.take (k + 1))).length ≤ 101 * (k + 1) := by rw [HTK.out, List.length_append, List.length_append, List.length_singleton]; omega
    clear b5 hk5 HK4
    go_wp2
    go_roundw
    case rel => exact ⟨k + 1, hlt, by go_num, HK5.out, HD3.out, HB5.out, hlt5, hj5⟩
    case measure => simp [intOf]; omega
end Go.Proofs.YtkgepklapglmdaaGreatDoor
