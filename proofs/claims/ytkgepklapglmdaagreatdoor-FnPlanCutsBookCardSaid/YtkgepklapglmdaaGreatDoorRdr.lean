/-
  Lemmas and contracts of single functions of this program, used by the proofs of its laws: what each call returns and what becomes of memory. Conditions: the hypotheses of each theorem.
-/
import Derived.Test.YtkgepklapglmdaaGreatDoorRows
import Derived.Test.YtkgepklapglmdaaGreatDoorOwn
import Derived.Test.YtkgepklapglmdaaGreatDoorFrame
import Derived.Deep.QuietTactic
import Derived.BigQuiet
import Derived.IntWalk
import Derived.Laws.BitsAllLaws
import Derived.Laws.BitsLemmas
namespace Go.Proofs.YtkgepklapglmdaaGreatDoor
open Go.RowKit

/-- a reader of the generators: its block g, its bytes below B, its place k -/
def Rdr (w : World) (B k g : Nat) (v : Value) : Prop :=
  ∃ A n c xs, v = .pointer (some ⟨g, 0, none⟩) ∧ B ≤ g ∧ w.heap[g]? = some (.cells #[.slice A n c, .int .i64 (k : Int)] 99 (0, 0)) ∧ Bytes w 0 B (.slice A n c) xs ∧ n ≤ 2000

theorem Bytes.cell {w : World} {lo hi n c : Nat} {A : Option Addr} {xs : List Int} (h : Bytes w lo hi (.slice A n c) xs) {k : Nat} (hk : k < n) :
    ∃ b o, A = some ⟨b, o, none⟩ ∧ lo ≤ b ∧ b < hi ∧ ∀ k, k < n → w.cell? ⟨b, o + k, none⟩ = some (.int .u8 (gi xs k)) ∧ 0 ≤ gi xs k ∧ gi xs k ≤ 255 := by
  obtain ⟨A', c', e, _, _, hr, h64⟩ := h
  obtain ⟨rfl, rfl, rfl⟩ : A = A' ∧ n = xs.length ∧ c = c' := by simpa using e
  obtain ⟨b, o, e1, h1, h2, h3⟩ := hr.2 (by omega)
  refine ⟨b, o, e1, h1, h2, fun k hk => ⟨?_, ?_⟩⟩
  · refine h3 k _ ?_
    simp [gi, hk]
  · rw [gi_eq hk]; exact h64 _ (List.getElem_mem hk)
theorem Bytes.kept {w w' : World} {lo hi : Nat} {v : Value} {xs : List Int} (h : Bytes w lo hi v xs) (hk : Kept lo hi w w') : Bytes w' lo hi v xs := by
  obtain ⟨A, c, h1, h2, h3, h4, h5⟩ := h
  exact ⟨A, c, h1, h2, h3, h4.kept hk, h5⟩
theorem Bytes.len {w : World} {lo hi n c : Nat} {A : Option Addr} {xs : List Int} (h : Bytes w lo hi (.slice A n c) xs) : n ≤ c ∧ c ≤ 2 ^ 63 - 1 := by
  obtain ⟨A', c', e, h2, h3, hr, h64⟩ := h
  obtain ⟨rfl, rfl, rfl⟩ : A = A' ∧ n = xs.length ∧ c = c' := by simpa using e
  unfold maxLen at h3
  exact ⟨h2, h3⟩
theorem Rdr.kept {w w' : World} {B k g : Nat} {v : Value} (h : Rdr w B k g v) (hg : w'.heap[g]? = w.heap[g]?) (hk : Kept 0 B w w') : Rdr w' B k g v := by
  obtain ⟨A, n, c, xs, h1, h2, h3, h4, h5⟩ := h
  exact ⟨A, n, c, xs, h1, h2, hg.trans h3, h4.kept hk, h5⟩
theorem Rdr.lt {w : World} {B k g : Nat} {v : Value} (h : Rdr w B k g v) : B ≤ g ∧ g < w.heap.size := by
  obtain ⟨A, n, c, xs, h1, h2, h3, h4, h5⟩ := h
  exact ⟨h2, (Array.getElem?_eq_some_iff.1 h3).1⟩
theorem Rdr.below {w w' : World} {B k g : Nat} {v : Value} (h : Rdr w B k g v) (hb : Below w.heap.size w w') : Rdr w' B k g v :=
  h.kept (hb.block g h.lt.2) (.of_below hb (by have := h.lt; omega))

theorem ofInt_i64 (a : Nat) (ha : a < 9223372036854775808) : (BitVec.ofInt 64 (a : Int)).toNat = a := by
  rw [BitVec.ofInt_natCast, BitVec.toNat_ofNat]; exact Nat.mod_eq_of_lt (by omega)
theorem i64_xor_nat (a b : Nat) (ha : a < 9223372036854775808) (hb : b < 9223372036854775808) : bits .xor .i64 (a : Int) (b : Int) = ((a ^^^ b : Nat) : Int) := by
  have _hx : a ^^^ b < 2 ^ 63 := Nat.xor_lt_two_pow (by omega) (by omega)
  show IntKind.i64.wrap ((BitVec.ofInt 64 (a : Int) ^^^ BitVec.ofInt 64 (b : Int)).toNat : Int) = _
  rw [BitVec.toNat_xor, ofInt_i64 a ha, ofInt_i64 b hb, IntKind.wrap_i64]
  omega

def PickOk (n r : Int) : Prop := (n < 1 → r = 0) ∧ (1 ≤ n → 0 ≤ r ∧ r < n)
theorem PickOk.mod {n x : Int} (h : 1 ≤ n) (_hx : 0 ≤ x) : PickOk n (x % n) := ⟨fun h' => by omega, fun _ => ⟨Int.emod_nonneg _ (by omega), Int.emod_lt_of_pos _ (by omega)⟩⟩

theorem PickOk.tmod {n x : Int} (h : 1 ≤ n) (hx : 0 ≤ x) : PickOk n (x.tmod n) := by
  rw [Int.tmod_eq_emod_of_nonneg hx]; exact PickOk.mod h hx
theorem xor_nonneg {x : Int} (h0 : 0 ≤ x) (h1 : x ≤ 4611686018427387904) : 0 ≤ bits .xor .i64 x (x / 64) := by
  obtain ⟨a, rfl⟩ := Int.eq_ofNat_of_zero_le h0
  rw [show ((a : Int) / 64) = ((a / 64 : Nat) : Int) by omega, i64_xor_nat a (a / 64) (by omega) (by omega)]
  omega
theorem Only.of_qt {w w' : World} (h : Qt w w') (lo hi : Nat) : Only lo hi w w' := by
  obtain ⟨n, rfl⟩ := h
  exact ⟨rfl, rfl, rfl, rfl, fun _ _ => rfl⟩

set_option maxRecDepth 100000 in
set_option maxHeartbeats 1000000 in
theorem pick_any (B k g : Nat) (v : Value) (n : Int) (w : World) (h : Rdr w B k g v) (hk : k ≤ 1000000) (hn : n ≤ 1099511627776) :
    Calls Tryz.prog 26 #[v, .int .i64 n] w fun e w' => ∃ r, e = .returned (.int .i64 r) ∧ PickOk n r ∧ Rdr w' B (k + 1) g v ∧ Only g (g + 1) w w' := by
  obtain ⟨A, m, c, xs, rfl, hBg, hblk, hby, hm⟩ := h
  have hc0 : w.cell? ⟨g, 0, none⟩ = some (.slice A m c) := by simp [World.cell?, hblk]
  have hc1 : w.cell? ⟨g, 1, none⟩ = some (.int .i64 (k : Int)) := by simp [World.cell?, hblk]
  have hf1 : w.frozen? ⟨g, 1, none⟩ = false := by simp [World.frozen?, hblk]
  have Hfin := Lib.hid (show Rdr (w.setCell ⟨g, 1, none⟩ (.int .i64 ((k : Int) + 1))) B (k + 1) g (.pointer (some ⟨g, 0, none⟩)) from by
    refine ⟨A, m, c, xs, rfl, hBg, ?_, hby.kept fun j _ hj => Below.heap_setCell _ _ _ _ (by show j ≠ g; omega), hm⟩
    simp [World.setCell, Array.getElem?_modify, hblk])
  have Hon := Lib.hid (show Only g (g + 1) w (w.setCell ⟨g, 1, none⟩ (.int .i64 ((k : Int) + 1))) from (Only.refl g (g + 1) w).setCell (p := ⟨g, 1, none⟩) (Nat.le_refl g) (Nat.lt_succ_self g) _)
  have hbl := hby.len
  have hby2 : Bytes (w.setCell ⟨g, 1, none⟩ (.int .i64 ((k : Int) + 1))) 0 B (.slice A m c) xs := hby.kept fun j _ hj => Below.heap_setCell _ _ _ _ (by show j ≠ g; omega)
  clear hblk hby
  have hc0' : (w.setCell ⟨g, 1, none⟩ (.int .i64 ((k : Int) + 1))).cell? ⟨g, 0, none⟩ = some (.slice A m c) := by
    rw [World.cell?_setCell_other _ _ _ _ (by simp)]; exact hc0
  by_cases hn1 : n < 1
  · go_enter Tryz.func26, Tryz.ntmps26
    go_wp2
    go_ret
    exact ⟨_, rfl, ⟨fun _ => rfl, fun h => by omega⟩, Hfin.out, Hon.out⟩
  · by_cases hm0 : m = 0
    · have Hm0 := Lib.hid hm0
      have hme : ((m : Int) == 0) = true := beq_t (by omega)
      clear hm0
      go_enter Tryz.func26, Tryz.ntmps26
      go_wp2
      go_ret
      exact ⟨_, rfl, ⟨fun _ => rfl, fun h => by omega⟩, Hfin.out, Hon.out⟩
    · have hme : ((m : Int) == 0) = false := beq_f (by omega)
      obtain ⟨b, o, rfl, _, _, hcell⟩ := hby2.cell (k := 0) (by omega)
      by_cases hkm : k < m
      · obtain ⟨hcell1, h0, h255⟩ := hcell k hkm
        clear hcell
        go_enter Tryz.func26, Tryz.ntmps26
        go_wp2
        go_ret
        exact ⟨_, rfl, PickOk.mod (by omega) h0, Hfin.out, Hon.out⟩
      · obtain ⟨m1, hm1⟩ : ∃ m1, m1 = k % m := ⟨_, rfl⟩
        obtain ⟨m2, hm2⟩ : ∃ m2, m2 = (k * 7 + 3) % m := ⟨_, rfl⟩
        obtain ⟨d, hd⟩ : ∃ d, d = k / m := ⟨_, rfl⟩
        have l1 : m1 < m := by rw [hm1]; exact Nat.mod_lt _ (by omega)
        have l2 : m2 < m := by rw [hm2]; exact Nat.mod_lt _ (by omega)
        have l3 : d ≤ k := by rw [hd]; exact Nat.div_le_self _ _
        obtain ⟨hcell1, h10, h1255⟩ := hcell m1 l1
        obtain ⟨hcell2, h20, h2255⟩ := hcell m2 l2
        obtain ⟨y1, hy1⟩ : ∃ y1, y1 = gi xs m1 := ⟨_, rfl⟩
        obtain ⟨y2, hy2⟩ : ∃ y2, y2 = gi xs m2 := ⟨_, rfl⟩
        rw [← hy1] at hcell1 h10 h1255
        rw [← hy2] at hcell2 h20 h2255
        clear hy1 hy2 hcell
        have a1 : ((k : Int).tmod (m : Int)) = (m1 : Int) := by rw [hm1, Int.natCast_emod]; exact Int.tmod_eq_emod_of_nonneg (by omega)
        have a1' : ((k : Int) % (m : Int)) = (m1 : Int) := by rw [hm1, Int.natCast_emod]
        have a2 : (((k : Int) * 7 + 3).tmod (m : Int)) = (m2 : Int) := by rw [hm2, Int.natCast_emod, Int.tmod_eq_emod_of_nonneg (by omega)]; rfl
        have a2' : (((k : Int) * 7 + 3) % (m : Int)) = (m2 : Int) := by rw [hm2, Int.natCast_emod]; rfl
        have a3 : ((k : Int).tdiv (m : Int)) = (d : Int) := by rw [hd, Int.natCast_ediv]; exact Int.tdiv_eq_ediv_of_nonneg (by omega)
        have a3' : ((k : Int) / (m : Int)) = (d : Int) := by rw [hd, Int.natCast_ediv]
        clear hm1 hm2 hd
        have e1 : IntKind.i64.wrap y1 = y1 := IntWalk.i64_in _ (by omega)
        have e2 : IntKind.i64.wrap (y1 * 131) = y1 * 131 := IntWalk.i64_in _ (by omega)
        have e3 : IntKind.i64.wrap ((k : Int) * 7) = (k : Int) * 7 := IntWalk.i64_in _ (by omega)
        have e4 : IntKind.i64.wrap ((k : Int) * 7 + 3) = (k : Int) * 7 + 3 := IntWalk.i64_in _ (by omega)
        have e5 : IntKind.i64.wrap y2 = y2 := IntWalk.i64_in _ (by omega)
        have e6 : IntKind.i64.wrap (y2 * 1117) = y2 * 1117 := IntWalk.i64_in _ (by omega)
        have e7 : IntKind.i64.wrap (y1 * 131 + y2 * 1117) = y1 * 131 + y2 * 1117 := IntWalk.i64_in _ (by omega)
        have e8 : IntKind.i64.wrap ((k : Int) * 29) = (k : Int) * 29 := IntWalk.i64_in _ (by omega)
        have e9 : IntKind.i64.wrap (y1 * 131 + y2 * 1117 + (k : Int) * 29) = y1 * 131 + y2 * 1117 + (k : Int) * 29 := IntWalk.i64_in _ (by omega)
        have e10 : IntKind.i64.wrap (d : Int) = (d : Int) := IntWalk.i64_in _ (by omega)
        have e11 : IntKind.i64.wrap ((d : Int) * 53) = (d : Int) * 53 := IntWalk.i64_in _ (by omega)
        have e12 : IntKind.i64.wrap (y1 * 131 + y2 * 1117 + (k : Int) * 29 + (d : Int) * 53) = y1 * 131 + y2 * 1117 + (k : Int) * 29 + (d : Int) * 53 := IntWalk.i64_in _ (by omega)
        have e13 : IntKind.i64.wrap (m1 : Int) = (m1 : Int) := IntWalk.i64_in _ (by omega)
        have e14 : IntKind.i64.wrap (m2 : Int) = (m2 : Int) := IntWalk.i64_in _ (by omega)
        have b1 : (0 : Int) ≤ (m1 : Int) := by omega
        have b2 : (m1 : Int) < (m : Int) := by omega
        have b3 : (0 : Int) ≤ (m2 : Int) := by omega
        have b4 : (m2 : Int) < (m : Int) := by omega
        have b5 : ¬ (m : Int) = 0 := by omega
        go_enter Tryz.func26, Tryz.ntmps26
        go_wp2
        go_quiet (fail)
        clear a1 a1' a2 a2' a3 a3' e1 e2 e3 e4 e5 e6 e7 e8 e9 e10 e11 e12 e13 e14
        go_wp2
        go_ret
        refine ⟨_, rfl, PickOk.tmod (by omega) (xor_nonneg (by omega) (by omega)), Hfin.out.kept rfl (fun _ _ _ => rfl), Hon.out.trans (Only.of_qt (Qt.one _ _) _ _)⟩

theorem one_any (B k g lo hi : Nat) (v u : Value) (xs : List Int) (w : World) (h : Rdr w B k g v) (hx : Ints w lo hi u xs) (hgx : hi ≤ g ∨ g < lo) (hk : k ≤ 1000000) (hne : 1 ≤ xs.length) (hl : xs.length ≤ 1099511627776) :
    Calls Tryz.prog 25 #[v, u] w fun e w' => ∃ r, e = .returned (.int .i64 r) ∧ r ∈ xs ∧ Rdr w' B (k + 1) g v ∧ Only g (g + 1) w w' := by
  obtain ⟨A, c, rfl, hc, hm⟩ := hx.form
  go_enter Tryz.func25, Tryz.ntmps25
  go_wp2_with fail
  refine (pick_any B k g v _ w h hk (by omega)).mono ?_
  rintro e w1 ⟨r, rfl, hp, hr1, hon⟩
  obtain ⟨hr0, hrn⟩ := hp.2 (by omega)
  obtain ⟨i, rfl⟩ := Int.eq_ofNat_of_zero_le hr0
  have hx1 := hx.kept (hon.kept (by omega))
  obtain ⟨b, o, rfl, _, _, hcell, _⟩ := hx1.cell (k := i) (by omega)
  have Hmem := Lib.hid (show gi xs i ∈ xs by rw [gi_eq (by omega)]; exact List.getElem_mem _)
  clear hp
  go_wp2_with fail
  go_ret
  exact ⟨_, rfl, Hmem.out, hr1, hon⟩

/-- 'r.one([]int{..})': the list has just been laid -/
theorem one_lit (B k g : Nat) (v : Value) (xs : List Int) (w : World) (cs : Array Value) (n b : Nat) (h : Rdr w B k g v) (hk : k ≤ 1000000) (hcs : cs = (xs.map (Value.int .i64)).toArray) (hn : n = xs.length) (hb : b = w.heap.size) (hne : 1 ≤ xs.length) (hl : xs.length ≤ 1000) (hx : ∀ x ∈ xs, I64 x) :
    Calls Tryz.prog 25 #[v, .slice (some ⟨b, 0, none⟩) n n] (w.alloc (.cells cs 3)) fun e w' => ∃ r, e = .returned (.int .i64 r) ∧ r ∈ xs ∧ Rdr w' B (k + 1) g v ∧ w.grownBy w' (some g) := by
  have hg := h.lt
  subst hcs hn hb
  refine (one_any B k g w.heap.size (w.heap.size + 1) v _ xs _ (h.below ((Below.refl _ _).alloc (Nat.le_refl _) _)) ?_ (by omega) hk hne (by omega)).mono ?_
  · refine ⟨some ⟨w.heap.size, 0, none⟩, xs.length, rfl, Nat.le_refl _, by simp only [maxLen]; omega, ⟨by simp, fun _ => ⟨w.heap.size, 0, rfl, Nat.le_refl _, by omega, fun j u hu => ?_⟩⟩, hx⟩
    rw [Nat.zero_add, cell_of_row _ w.heap.size j _ _ (0, 0) (heap_alloc_new w _)]
    simpa using hu
  · rintro e w1 ⟨r, rfl, hr, hr1, hon⟩
    exact ⟨r, rfl, hr, hr1, hon.os, hon.tape, hon.output, by rw [hon.size]; simp, fun i hi hne => (hon.block i (by have : i ≠ g := fun e => hne (by rw [e]); omega)).trans (Below.heap_alloc w _ i hi)⟩

theorem newReader_any (v : Value) (xs : List Int) (w : World) (h : Bytes w 0 w.heap.size v xs) :
    Calls Tryz.prog 23 #[v] w fun e w' => ∃ v', e = .returned v' ∧ Rdr w' w.heap.size 0 w.heap.size v' ∧ Below w.heap.size w w' := by
  obtain ⟨A, c, rfl, hc, hm, hr, h255⟩ := h
  unfold maxLen at hm
  by_cases hl : 2000 < xs.length
  · have hby : Bytes w 0 w.heap.size (.slice A 2000 c) (xs.take 2000) := by
      have e : (xs.take 2000).length = 2000 := by rw [List.length_take]; omega
      refine ⟨A, c, by rw [e], by omega, by unfold maxLen; omega, ⟨by rw [List.length_map, e], fun _ => ?_⟩, fun x hx => h255 x (List.mem_of_mem_take hx)⟩
      obtain ⟨b, o, e1, h1, h2, h3⟩ := hr.2 (by omega)
      refine ⟨b, o, e1, h1, h2, fun j u hu => h3 j u ?_⟩
      rw [List.map_take, List.getElem?_take] at hu
      split at hu
      · exact hu
      · cases hu
    have Hby := Lib.hid hby
    clear hby
    go_enter Tryz.func23, Tryz.ntmps23
    go_wp2
    go_ret
    exact ⟨_, rfl, ⟨A, 2000, c, _, rfl, Nat.le_refl _, heap_alloc_new w _, Hby.out.kept fun k _ hk => Below.heap_alloc w _ k hk, Nat.le_refl _⟩, (Below.refl _ _).alloc (Nat.le_refl _) _⟩
  · have hby : Bytes w 0 w.heap.size (.slice A xs.length c) xs := ⟨A, c, rfl, hc, by unfold maxLen; omega, hr, h255⟩
    have Hby := Lib.hid hby
    clear hby
    go_enter Tryz.func23, Tryz.ntmps23
    go_wp2
    go_ret
    exact ⟨_, rfl, ⟨A, xs.length, c, _, rfl, Nat.le_refl _, heap_alloc_new w _, Hby.out.kept fun k _ hk => Below.heap_alloc w _ k hk, by omega⟩, (Below.refl _ _).alloc (Nat.le_refl _) _⟩
end Go.Proofs.YtkgepklapglmdaaGreatDoor
