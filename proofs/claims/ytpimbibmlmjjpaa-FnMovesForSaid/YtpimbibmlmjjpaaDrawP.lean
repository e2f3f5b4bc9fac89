/-
  Lemmas and contracts of single functions of this program, used by the proofs of its laws: what each call returns and what becomes of memory. Conditions: the hypotheses of each theorem.
-/
import Derived.Test.YtpimbibmlmjjpaaFull
import Derived.Test.YtpimbibmlmjjpaaRdr
import Derived.Test.YtpimbibmlmjjpaaPileJ
import Derived.Deep.RegionWith
import Derived.Deep.RegionHeld3
import Derived.Deep.CutRange
import Derived.Deep.DrawnRows
namespace Go.Proofs.Ytpimbibmlmjjpaa
open Go.RowKit

theorem grown_trans {a b c : World} {row : Option Nat} (h : a.grownBy b row) (k : b.grownBy c row) : a.grownBy c row :=
  ⟨k.os.trans h.os, k.tape.trans h.tape, k.output.trans h.output, Nat.le_trans h.size k.size, fun i hi hn => (k.block i (Nat.lt_of_lt_of_le hi h.size) hn).trans (h.block i hi hn)⟩
theorem grown_only {a b : World} {g : Nat} (h : Only g (g + 1) a b) : a.grownBy b (some g) :=
  ⟨h.os, h.tape, h.output, by rw [h.size]; exact Nat.le_refl _, fun k _ hn => h.block k (by have : k ≠ g := fun e => hn (by rw [e]); omega)⟩
theorem grown_below {a b : World} (h : Below a.heap.size a b) (row : Option Nat) : a.grownBy b row :=
  ⟨h.os, h.tape, h.output, h.size, fun k hk _ => h.block k hk⟩
theorem grown_qt {a b : World} (h : Qt a b) (row : Option Nat) : a.grownBy b row := grown_below (h.below _) row
theorem Kept.of_grown {a b : World} {g lo hi : Nat} (h : a.grownBy b (some g)) (hh : hi ≤ a.heap.size) (hg : g < lo ∨ hi ≤ g) : Kept lo hi a b :=
  fun k h1 h2 => h.block k (by omega) (fun e => by injection e with e; omega)
theorem below_of_grown {a b : World} {g B : Nat} (h : a.grownBy b (some g)) (hB : B ≤ g) (hs : B ≤ a.heap.size) : Below B a b :=
  ⟨h.os, h.tape, h.output, h.size, fun k hk => h.block k (by omega) (fun e => by injection e with e; omega)⟩
theorem setCell_congr {a b : World} {p : Addr} {u : Value} {k : Nat} (h : b.heap[k]? = a.heap[k]?) : (b.setCell p u).heap[k]? = (a.setCell p u).heap[k]? := by
  simp only [World.setCell, Array.getElem?_modify, h]
theorem wrap_i64 (z : Int) : I64 (IntKind.i64.wrap z) := by rw [IntKind.wrap_i64]; unfold I64; omega

/-- the number that a cell holds in a world -/
def curr (a : Addr) (w : World) : Int := match w.cell? a with
  | some (.int .i64 n) => n
  | _ => 0
theorem curr_of {a : Addr} {w : World} {n : Int} (h : w.cell? a = some (.int .i64 n)) : w.cell? a = some (.int .i64 (curr a w)) := by
  unfold curr; rw [h]
theorem wrap64_i64d (x : Int) : I64 (wrap64 x) := by unfold wrap64 I64; omega
/-- a store into a row, behind draws of a reader -/
theorem sp_store {w wr w2 : World} {B g sO kk gi0 j tS tI : Nat} {v sl u : Value} {q2 : List (List Int)} (hg : g < w.heap.size) (hBg : B ≤ g) (hgi : w.heap.size ≤ gi0) (hset : OwnR (wr.setCell ⟨gi0, j, none⟩ u) w.heap.size sO tS tI sl q2)
    (hon : Only g (g + 1) wr w2) (hR : Rdr w2 B kk g v) (hgr : w.grownBy wr (some g)) (hsO : sO ≤ wr.heap.size) :
    OwnR (w2.setCell ⟨gi0, j, none⟩ u) w.heap.size sO tS tI sl q2 ∧ Rdr (w2.setCell ⟨gi0, j, none⟩ u) B kk g v ∧ w.grownBy (w2.setCell ⟨gi0, j, none⟩ u) (some g) ∧ sO ≤ (w2.setCell ⟨gi0, j, none⟩ u).heap.size := by
  refine ⟨hset.kept fun k h1 _ => setCell_congr (hon.block k (by omega)), hR.kept (Below.heap_setCell _ _ _ _ (by show g ≠ gi0; omega)) (fun k _ hk => Below.heap_setCell _ _ _ _ (by show k ≠ gi0; omega)), ?_, by simp only [World.setCell, Array.size_modify]; rw [hon.size]; exact hsO⟩
  refine ⟨hon.os.trans hgr.os, hon.tape.trans hgr.tape, hon.output.trans hgr.output, by simp only [World.setCell, Array.size_modify]; rw [hon.size]; exact hgr.size, fun i hi hne => ?_⟩
  rw [Below.heap_setCell _ _ _ _ (by show i ≠ gi0; omega), hon.block i (by have : i ≠ g := fun e => hne (by rw [e]); omega)]
  exact hgr.block i hi hne
theorem ownsRow_take {w : World} {base e n c k : Nat} {A : Option Addr} {vs : List Value} (h : w.ownsRow base e 1 (.slice A n c) n vs) (hk : k ≤ n) : w.ownsRow base e 1 (.slice A k c) k (vs.take k) := by
  obtain ⟨hl, hv⟩ := h
  refine ⟨by rw [List.length_take]; omega, ?_⟩
  rcases hv with ⟨e1, h0⟩ | ⟨g, cap, cur, e1, hb, hg, hnc, hcm, hcs, ht⟩
  · injection e1 with e2 e3 e4
    subst e2; subst e4
    have : k = 0 := by omega
    subst this
    exact .inl ⟨rfl, rfl⟩
  · injection e1 with e2 e3 e4
    subst e2; subst e4
    refine .inr ⟨g, c, cur, rfl, hb, hg, by omega, hcm, hcs, ?_⟩
    rw [← ht, List.take_take]
    congr 1
    omega
theorem OwnR.take {w : World} {base s tS tI n c k : Nat} {A : Option Addr} {xss : List (List Int)} (h : OwnR w base s tS tI (.slice A n c) xss) (hk : k ≤ xss.length) : OwnR w base s tS tI (.slice A k c) (xss.take k) := by
  obtain ⟨A', c', e, _, _⟩ := h.form
  injection e with _ en _
  subst en
  obtain ⟨vs, h1, h2, h3, h4⟩ := h
  have hvl := ownsRow_len h1
  have hl : (xss.take k).length = k := by rw [List.length_take]; omega
  refine ⟨vs.take k, by rw [hl]; exact ownsRow_take h1 hk, fun g hg => h2 g (by cases A <;> simp [Value.ownBlock] at hg ⊢ <;> exact hg), fun j hj => ?_, fun i j hij hj g hg => ?_⟩
  · rw [hl] at hj
    have e1 : gv (vs.take k) j = gv vs j := by simp [gv, List.getD, hj]
    have e2 : gr (xss.take k) j = gr xss j := by simp [gr, List.getD, hj]
    rw [e1, e2]
    exact h3 j (by omega)
  · rw [hl] at hj
    have e1 : gv (vs.take k) j = gv vs j := by simp [gv, List.getD, hj]
    have e2 : gv (vs.take k) i = gv vs i := by simp [gv, List.getD, show i < k by omega]
    rw [e2] at hg
    rw [e1]
    exact h4 i j hij (by omega) g hg
theorem tot_full (m : Nat) (q : List (List Int)) (h : SameShape q (fullL m)) (hm : m ≤ 6) : q.length ≤ 6 ∧ tot q ≤ 36 := by
  have hl : q.length = m := by rw [h.1]; exact fullGo_len m 0
  refine ⟨by omega, ?_⟩
  have := tot_le 6 q fun r hr => by
    rw [h.2]
    have := fullGo_row m 0 r (by omega)
    unfold fullL
    omega
  omega
def RowsPos (p : List (List Int)) : Prop := ∀ r, r < p.length → 0 < (gr p r).length
theorem pos_full (m : Nat) (q : List (List Int)) (h : SameShape q (fullL m)) : RowsPos q := fun r hr => by
  have hl : q.length = m := by rw [h.1]; exact fullGo_len m 0
  have := fullGo_row m 0 r (by omega)
  rw [h.2]
  unfold fullL
  omega
theorem RowsPos.take {q : List (List Int)} (h : RowsPos q) (k : Nat) : RowsPos (q.take k) := fun r hr => by
  rw [List.length_take] at hr
  have e2 : gr (q.take k) r = gr q r := by simp [gr, List.getD, show r < k by omega]
  rw [e2]; exact h r (by omega)
/-- the same behind whatever has grown -/
theorem sp_store2 {w wr w2 : World} {g sO gi0 j tS tI : Nat} {sl u : Value} {q2 : List (List Int)} (hg : g < w.heap.size) (hset : OwnR (wr.setCell ⟨gi0, j, none⟩ u) w.heap.size sO tS tI sl q2)
    (hon : wr.grownBy w2 (some g)) (hsO : sO ≤ wr.heap.size) : OwnR (w2.setCell ⟨gi0, j, none⟩ u) w.heap.size sO tS tI sl q2 :=
  hset.kept fun k h1 h2 => setCell_congr (hon.block k (by omega) (fun e => by injection e with e; omega))
theorem grown_setCell {a w : World} {g : Nat} (h : a.grownBy w (some g)) {p : Addr} (hp : a.heap.size ≤ p.block) (u : Value) : a.grownBy (w.setCell p u) (some g) :=
  ⟨h.os, h.tape, h.output, by simp only [World.setCell, Array.size_modify]; exact h.size, fun i hi hne => (Below.heap_setCell w p u i (by omega)).trans (h.block i hi hne)⟩
theorem tot_set2 (q : List (List Int)) (r i : Nat) (x : Int) : (set2 q r i x).length = q.length ∧ tot (set2 q r i x) = tot q := ⟨(set2_shape (SameShape.refl q) r i x).1, shape_tot (set2_shape (SameShape.refl q) r i x)⟩
theorem tot_pre (q : List (List Int)) (k : Nat) : (q.take k).length ≤ q.length ∧ tot (q.take k) ≤ tot q := ⟨by rw [List.length_take]; omega, tot_take_le q k⟩

attribute [local go_sem ↓] Go.wp_at_zero Go.wp_at_succ
set_option maxRecDepth 100000 in
set_option maxHeartbeats 4000000 in
theorem somePile_any (B k g : Nat) (v : Value) (most : Int) (w : World) (h : Rdr w B k g v) (hk : k ≤ 900000) (hm0 : -1000 ≤ most) (hm1 : most ≤ 1000) :
    Calls Try.prog 70 #[v, .int .i64 most] w fun e w' => ∃ v' p k' s, e = .returned v' ∧ OwnR w' w.heap.size s 26 3 v' p ∧ s ≤ w'.heap.size ∧ p.length ≤ 6 ∧ tot p ≤ 36 ∧ Rdr w' B k' g v ∧ k' ≤ k + 100 ∧ w.grownBy w' (some g) ∧ RowsPos p := by
  have hg0 := h.lt
  go_enter Try.func70, Try.ntmps70
  go_wp2_with fail
  refine (one_lit B k g v [3, 4, 2, 5, 1, 0] w _ _ _ h (by omega) rfl rfl rfl (by simp) (by simp) (by unfold I64; simp)).mono ?_
  rintro e w1 ⟨n, rfl, hn, hr1, gr1⟩
  have s1 := gr1.size
  have hn6 : 0 ≤ n ∧ n ≤ 6 := by
    simp only [List.mem_cons, List.not_mem_nil, or_false] at hn
    omega
  have hin : inR 0 6 n = true := inR_mk hn6
  obtain ⟨m, rfl⟩ := Int.eq_ofNat_of_zero_le hn6.1
  have hm6 : m ≤ 6 := by omega
  clear hn hn6
  go_wp2_with fail
  refine (sFullPile_any _ _).mono ?_
  rw [hin, if_pos rfl, Int.toNat_natCast]
  rintro e w2 ⟨v2, rfl, o2, b2⟩
  have s2 := b2.size
  obtain ⟨A2, c2, rfl, hc2, hm2⟩ := o2.form
  have hlen := fullGo_len m 0
  have hlen' : (fullL m).length = m := hlen
  rw [hlen'] at hc2 o2 ⊢
  have hr2 := hr1.below b2
  have hgr2 := grown_trans gr1 (grown_below b2 (some g))
  have Hrow := Lib.hid (show ∀ r, r < m → (gr (fullL m) r).length = m - r from fullGo_row m 0)
  have Hlen := Lib.hid hlen'
  clear hin hlen hlen'
  obtain ⟨sO, hsO⟩ : ∃ s, s = w2.heap.size := ⟨_, rfl⟩
  have HsO := Lib.hid hsO
  rw [hsO.symm] at o2
  have hsO1 : sO ≤ w2.heap.size := by omega
  have o2' := o2.wide s1 (Nat.le_refl _)
  clear hsO o2
  go_wp2_with fail
  go_loopw [1, 7, 8, 9] (fun ms i _ _ wr => ∃ (r k' : Nat) (most : Int) (q : List (List Int)), r ≤ m ∧ i = .int .i64 r ∧ ms = .int .i64 most ∧ -1000 - 10 * (r : Int) ≤ most ∧ most ≤ 1000 ∧ OwnR wr w.heap.size sO 26 3 (.slice A2 m c2) q ∧ SameShape q (fullL m) ∧ Rdr wr B k' g v ∧ k' ≤ k + 1 + 14 * r ∧ w.grownBy wr (some g) ∧ sO ≤ wr.heap.size) (fun _ i _ _ _ => m - (intOf i).toNat)
  case atStart => exact ⟨0, k + 1, most, _, by omega, rfl, rfl, by omega, hm1, o2', SameShape.refl _, hr2, by omega, hgr2, hsO1⟩
  case round =>
    obtain ⟨r, k', most, q, hk', rfl, rfl, hmo, hmo1, ho, hs, hrd, hkk, hgr, hso⟩ := hrel
    by_cases hlt : r < m
    · obtain ⟨b, o, Ai, ci, rfl, hb2, hb3, hcell, hci, hmi, hi1⟩ := ho.rows.row (r := r) (by rw [hs.1, Hlen.out]; exact hlt)
      have hrl : (gr q r).length = m - r := by rw [hs.2]; exact Hrow.out r hlt
      rw [hrl] at hcell hci
      clear hrl
      go_wp2_with fail
      obtain ⟨wo, rfl⟩ : ∃ wo : World, wo = wr := ⟨_, rfl⟩
      go_loopw [1, 8, 9] (fun ms i _ wr => ∃ (j k'' : Nat) (most' : Int) (q' : List (List Int)), j ≤ m - r ∧ i = .int .i64 j ∧ ms = .int .i64 most' ∧ most - j ≤ most' ∧ most' ≤ 1000 ∧ OwnR wr w.heap.size sO 26 3 (.slice (some ⟨b, o, none⟩) m c2) q' ∧ SameShape q' (fullL m) ∧ Rdr wr B k'' g v ∧ k'' ≤ k' + 2 * j ∧ w.grownBy wr (some g) ∧ sO ≤ wr.heap.size) (fun _ i _ _ => m - r - (intOf i).toNat)
      case atStart => exact ⟨0, k', most, q, by omega, rfl, rfl, by omega, hmo1, ho, hs, hrd, by omega, hgr, hso⟩
      case round =>
        clear ho hs hrd hgr hso hcell hci hi1
        obtain ⟨j, k'', most', q', hj, rfl, rfl, hmo', hmo1', ho', hs', hrd', hkk', hgr', hso'⟩ := hrel
        by_cases hjt : j < m - r
        · obtain ⟨g0, gi0, ci0, hA0, hg0l, hg0h, hcl0, hci0, hmi0, hgi0l, hgi0h, hne0, hcl1, hfr1, hset⟩ := ho'.at_ (r := r) (i := j) (by decide) (by rw [hs'.1, Hlen.out]; exact hlt) (by rw [hs'.2, Hrow.out r hlt]; exact hjt)
          have hrl' : (gr q' r).length = m - r := by rw [hs'.2]; exact Hrow.out r hlt
          simp only [Option.some.injEq, Addr.mk.injEq, and_true] at hA0
          obtain ⟨rfl, rfl⟩ := hA0
          rw [hrl'] at hcl0 hci0
          have Hset := Lib.hid hset
          clear hset hrl'
          obtain ⟨x, hx⟩ : ∃ x, x = gi (gr q' r) j := ⟨_, rfl⟩
          rw [← hx] at hcl1
          clear hx
          have Hend := Lib.hid (fun (w2 : World) (y : Int) (kk : Nat) (hy : I64 y) (hw : Only g (g + 1) wr w2) (hR : Rdr w2 B kk g v) => sp_store hg0.2 hg0.1 hgi0l (Hset.out y hy) hw hR hgr' hso')
          have Hsh := Lib.hid (fun (y : Int) => set2_shape hs' r j y)
          clear Hset
          have hfree : (((r : Int) == 0) = true) ∨ (((r : Int) == 0) = false ∧ 0 < r) := by
            rcases Nat.eq_zero_or_pos r with h0 | h0
            · exact .inl (beq_t (by omega))
            · exact .inr ⟨beq_f (by omega), h0⟩
          have Hup := Lib.hid (fun (h0 : 0 < r) => show ∃ x1 x2 : Int, ∃ A1 c1 o1, wr.cell? ⟨b, r - 1, none⟩ = some (.slice (some ⟨A1, o1, none⟩) (m - r + 1) c1) ∧ m - r + 1 ≤ c1 ∧ c1 ≤ 2 ^ 63 - 1 ∧ wr.cell? ⟨A1, o1 + j, none⟩ = some (.int .i64 x1) ∧ wr.cell? ⟨A1, o1 + (j + 1), none⟩ = some (.int .i64 x2) from by
            have hl1 : (gr q' (r - 1)).length = m - r + 1 := by rw [hs'.2, Hrow.out (r - 1) (by omega)]; omega
            obtain ⟨Ap, cp, hcp, hcp1, hcp2, hip⟩ := ho'.rows.row' (r := r - 1) (by rw [hs'.1, Hlen.out]; omega)
            obtain ⟨bp, op, rfl, _, _, hc1, _⟩ := hip.cell (k := j) (by omega)
            have hc2 := hip.cell' (k := j + 1) (by omega)
            rw [hl1] at hcp hcp1
            rw [Nat.zero_add] at hcp
            exact ⟨_, _, bp, cp, op, hcp, hcp1, hcp2, hc1, hc2⟩)
          clear ho' hs'
          have hcase : (((r : Int) == 0) = true) ∨ (0 < r ∧ ((r : Int) == 0) = false ∧ ∃ x1 x2 : Int, ∃ A1 c1 o1, wr.cell? ⟨b, r - 1, none⟩ = some (.slice (some ⟨A1, o1, none⟩) (m - r + 1) c1) ∧ m - r + 1 ≤ c1 ∧ c1 ≤ 2 ^ 63 - 1 ∧ wr.cell? ⟨A1, o1 + j, none⟩ = some (.int .i64 x1) ∧ wr.cell? ⟨A1, o1 + (j + 1), none⟩ = some (.int .i64 x2) ∧ ((0 < x1 ∧ 0 < x2) ∨ (0 < x1 ∧ ¬ 0 < x2) ∨ ¬ 0 < x1)) := by
            rcases hfree with h1 | ⟨h1, h2⟩
            · exact .inl h1
            · obtain ⟨x1, x2, A1, c1, o1, e1, e2, e3, e4, e5⟩ := Hup.out h2
              exact .inr ⟨h2, h1, x1, x2, A1, c1, o1, e1, e2, e3, e4, e5, by omega⟩
          clear hfree Hup
          have hon0 := Only.refl g (g + 1) wr
          obtain ⟨wn, hwn⟩ : ∃ wn : World, Hid (wn = wr) := ⟨_, rfl⟩
          go_upto_region 9 with fail
          go_cut [9] from 30 to 54 (fun s9 wx => ∃ fr : Bool, s9 = .bool fr ∧ Hid (wx = wn))
          case first =>
            rcases hcase with hr0 | ⟨hr0, hr1, x1, x2, A1, c1, o1, e1, e2, e3, e4, e5, hpos⟩
            rotate_left
            rcases hpos with ⟨p1, p2⟩ | ⟨p1, p2⟩ | p1
            all_goals
              go_wp2_with fail
              go_meet
              exact ⟨_, rfl, hwn.out.symm⟩
          case rest =>
          obtain ⟨fr, rfl, hwx⟩ := hcut
          obtain rfl := hwx.out.trans hwn.out
          clear hwx hwn
          clear hcase
          cases fr
          · go_wp2_with fail
            go_roundw
            case rel =>
              obtain ⟨q1, q2, q3, q4⟩ := Hend.out _ 0 k'' ⟨by omega, by omega⟩ hon0 hrd'
              exact ⟨j + 1, k'', most', _, by omega, by go_num, rfl, by omega, hmo1', q1, Hsh.out 0, q2, by omega, q3, q4⟩
            case measure => simp [intOf]; omega
          · go_wp2_with fail
            refine (pick_any B k'' g v 5 _ hrd' (by omega) (by omega)).mono ?_
            rintro e w3 ⟨p5, rfl, hp5, hrd3, hon3⟩
            have hcl0' := (hon3.kept (l := w.heap.size) (u := sO) (by omega)).cell (a := ⟨b, r, none⟩) hg0l hg0h hcl0
            have hcl1' := (hon3.kept (l := w.heap.size) (u := sO) (by omega)).cell (a := ⟨gi0, j, none⟩) hgi0l hgi0h hcl1
            have hfr1' : w3.frozen? ⟨gi0, j, none⟩ = false := by rw [World.frozen?_of_block (hon3.block gi0 (by omega))]; exact hfr1
            clear hcl0 hcl1 hfr1
            by_cases hz : p5 = 0
            · have hz' : (p5 == 0) = true := beq_t hz
              clear hz
              go_wp2_with fail
              go_roundw
              case rel =>
                obtain ⟨q1, q2, q3, q4⟩ := Hend.out w3 0 (k'' + 1) ⟨by omega, by omega⟩ hon3 hrd3
                exact ⟨j + 1, k'' + 1, most', _, by omega, by go_num, rfl, by omega, hmo1', q1, Hsh.out 0, q2, by omega, q3, q4⟩
              case measure => simp [intOf]; omega
            · have hz' : (p5 == 0) = false := beq_f hz
              clear hz
              by_cases hmz : most' = 0
              · have hmz' : (most' == 0) = true := beq_t hmz
                have Hmz := Lib.hid hmz
                clear hmz
                go_wp2_with fail
                go_roundw
                case rel =>
                  obtain ⟨q1, q2, q3, q4⟩ := Hend.out w3 0 (k'' + 1) ⟨by omega, by omega⟩ hon3 hrd3
                  exact ⟨j + 1, k'' + 1, most', _, by omega, by go_num, rfl, by omega, hmo1', q1, Hsh.out 0, q2, by omega, q3, q4⟩
                case measure => simp [intOf]; omega
              · have hmz' : (most' == 0) = false := beq_f hmz
                clear hmz
                go_wp2_with fail
                have hpk : Calls Try.prog 68 #[v, .int .i64 10] w3.drew fun e w' => ∃ z : Int, e = .returned (.int .i64 z) ∧ 0 ≤ z ∧ z < 10 ∧ Rdr w' B (k'' + 2) g v ∧ Only g (g + 1) w3 w' ∧ w'.cell? ⟨b, r, none⟩ = some (.slice (some ⟨gi0, 0, none⟩) (m - r) ci0) ∧ w'.cell? ⟨gi0, j, none⟩ = some (.int .i64 x) ∧ w'.frozen? ⟨gi0, j, none⟩ = false := by
                  refine (pick_any B (k'' + 1) g v 10 w3.drew (hrd3.kept rfl (fun _ _ _ => rfl)) (by omega) (by omega)).mono ?_
                  rintro e w4 ⟨p10, rfl, hp10, hrd4, hon4⟩
                  have hon4' : Only g (g + 1) w3 w4 := ⟨hon4.os, hon4.tape, hon4.output, hon4.size, hon4.block⟩
                  refine ⟨p10, rfl, (hp10.2 (by omega)).1, (hp10.2 (by omega)).2, hrd4, hon4', (hon4'.kept (l := w.heap.size) (u := sO) (by omega)).cell (a := ⟨b, r, none⟩) hg0l hg0h hcl0', (hon4'.kept (l := w.heap.size) (u := sO) (by omega)).cell (a := ⟨gi0, j, none⟩) hgi0l hgi0h hcl1', ?_⟩
                  rw [World.frozen?_of_block (hon4'.block gi0 (by omega))]; exact hfr1'
                have hj0 : (0 : Int) ≤ (j : Int) := by omega
                have hj1 : (j : Int) < ((m - r : Nat) : Int) := by omega
                have hr00 : (0 : Int) ≤ (r : Int) := by omega
                have hr11 : (r : Int) < (m : Int) := by omega
                have hy : ∀ w4 y, Only g (g + 1) w3 w4 → Rdr w4 B (k'' + 2) g v → I64 y → _ := fun w4 y a b c => Hend.out w4 y (k'' + 2) c (hon3.trans a) b
                have Hy := Lib.hid hy
                clear hy Hend hon3 hrd3 hp5
                go_cut [] from 72 to 90 (fun wx => ∃ w4 y, wx = w4.setCell ⟨gi0, j, none⟩ (.int .i64 y) ∧ Hid (Only g (g + 1) w3 w4 ∧ Rdr w4 B (k'' + 2) g v ∧ I64 y))
                case first =>
                  clear Hy Hsh Hrow Hlen HsO hon0 hgr' hrd' hmo hmo1 hmo' hmo1' hkk hkk' hso' hne0 hb2 hb3 h hg0 hm0 hm1 hr1 gr1 hr2 hgr2 b2
                  go_region_with ((go_at_call 68; refine hpk.mono ?_; rintro e w4 ⟨p10, rfl, hp10a, hp10b, hrd4, hon4, hcl0'', hcl1'', hfr1''⟩))
                  all_goals
                    go_wp2_with fail
                    go_meet
                    exact ⟨_, _, rfl, hon4, hrd4, wrap_i64 _⟩
                case rest =>
                obtain ⟨w4, y, rfl, hh⟩ := hcut
                obtain ⟨hon4, hrd4, hy64⟩ := hh.out
                obtain ⟨q1, q2, q3, q4⟩ := Hy.out w4 y hon4 hrd4 hy64
                clear hh hon4 hrd4 hy64 Hy
                go_wp2_with fail
                go_roundw
                case rel => exact ⟨j + 1, k'' + 2, most' - 1, _, by omega, by go_num, rfl, by omega, by omega, q1, Hsh.out _, q2, by omega, q3, q4⟩
                case measure => simp [intOf]; omega
        · have hrl' : (gr q' r).length = m - r := by rw [hs'.2]; exact Hrow.out r hlt
          obtain ⟨Ae, ce, hcle, hcie, hmie, _⟩ := ho'.rows.row' (r := r) (by rw [hs'.1, Hlen.out]; exact hlt)
          rw [hrl'] at hcle hcie
          clear hrl'
          go_wp2
          go_roundw
          case rel => exact ⟨r + 1, k'', most', q', by omega, by go_num, rfl, by omega, hmo1', ho', hs', hrd', by omega, hgr', hso'⟩
          case measure => simp [intOf]; omega
    · have He := Lib.hid (show r = m by omega)
      have Hfull := Lib.hid (tot_full m q hs hm6)
      have Hpos := Lib.hid (pos_full m q hs)
      have hql : q.length ≤ m := by rw [hs.1, Hlen.out]; exact Nat.le_refl _
      have hql2 : m ≤ q.length := by rw [hs.1, Hlen.out]; exact Nat.le_refl _
      clear hs
      by_cases hm2 : 1 < m
      · have hd1 : decide ((1 : Int) < (m : Int)) = true := decide_eq_true (by omega)
        go_wp2_with fail
        refine (pick_any B k' g v 4 _ hrd (by omega) (by omega)).mono ?_
        rintro e w3 ⟨p4, rfl, hp4, hrd3, hon3⟩
        have ho3 := ho.kept (hon3.kept (l := w.heap.size) (u := sO) (.inr (by omega)))
        have hgr3 := grown_trans hgr (grown_only hon3)
        have hs3 : sO ≤ w3.heap.size := by rw [hon3.size]; exact hso
        clear ho hrd hgr hso hon3
        by_cases hz : p4 = 0
        · have hz' : (p4 == 0) = true := beq_t hz
          clear hz hp4
          go_wp2_with fail
          refine (pick_any B (k' + 1) g v ((m : Int) - 1) _ hrd3 (by omega) (by omega)).mono ?_
          rintro e w4 ⟨p5, rfl, hp5, hrd4, hon4⟩
          obtain ⟨h50, h51⟩ := hp5.2 (by omega)
          obtain ⟨z, rfl⟩ := Int.eq_ofNat_of_zero_le h50
          have ho4 := (ho3.kept (hon4.kept (l := w.heap.size) (u := sO) (.inr (by omega)))).take (k := z + 1) (by omega)
          have hgr4 := grown_trans hgr3 (grown_only hon4)
          have hs4 : sO ≤ w4.heap.size := by rw [hon4.size]; exact hs3
          have hpre := tot_pre q (z + 1)
          clear ho3 hrd3 hgr3 hs3 hon4 hp5
          go_wp2_with fail
          go_ret
          refine ⟨_, q.take (z + 1), k' + 2, sO, rfl, ?_, hs4, by omega, by have := Hfull.out; omega, hrd4, by omega, hgr4, Hpos.out.take _⟩
          first | exact ho4 | (rw [show 1 + z = z + 1 by omega]; exact ho4)
        · have hz' : (p4 == 0) = false := beq_f hz
          clear hz hp4
          go_wp2_with fail
          go_ret
          exact ⟨_, q, k' + 1, sO, rfl, ho3, hs3, Hfull.out.1, Hfull.out.2, hrd3, by omega, hgr3, Hpos.out⟩
      · have hd1 : decide ((1 : Int) < (m : Int)) = false := decide_eq_false (by omega)
        go_wp2_with fail
        go_ret
        exact ⟨_, q, k', sO, rfl, ho, hso, Hfull.out.1, Hfull.out.2, hrd, by omega, hgr, Hpos.out⟩

end Go.Proofs.Ytpimbibmlmjjpaa
