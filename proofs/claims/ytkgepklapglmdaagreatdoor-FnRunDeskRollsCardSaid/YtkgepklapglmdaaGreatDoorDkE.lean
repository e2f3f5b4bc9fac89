/-
  Texts merged into one: what each function does, and plain lemmas. No condition.
-/
import Derived.Test.YtkgepklapglmdaaGreatDoorLawT4
import Derived.Test.YtkgepklapglmdaaGreatDoorDkA
namespace Go.Proofs.YtkgepklapglmdaaGreatDoor
open Go.RowKit
attribute [local go_sem ↓] Go.wp_at_zero Go.wp_at_succ

theorem OwnS.grownK {w w' : World} {base e g : Nat} {v : Value} {xs : List (List UInt8)} (h : OwnS w base e v xs) (hg : w.grownBy w' (some g)) (hlt : g < base) : OwnS w' base e v xs :=
  h.kept (Kept.of_grown hg (Nat.le_refl _) (.inl hlt))
theorem Rdr.grewD {base : Nat} {v u u' : Value} {W w1 : World} {B k g : Nat} (h : Rdr W B k g v) (hg : Grew base u u' W w1) (hlt : g < base) : Rdr w1 B k g v := by
  have h0 := h.lt
  exact h.kept (hg.below.block g hlt) fun j _ hj => hg.below.block j (by omega)
theorem grown_thenD {a b c : World} {B g : Nat} (h : a.grownBy b (some g)) (k : Below B b c) (hB : a.heap.size ≤ B) : a.grownBy c (some g) :=
  ⟨k.os.trans h.os, k.tape.trans h.tape, k.output.trans h.output, Nat.le_trans h.size k.size, fun i hi hn => (k.block i (by omega)).trans (h.block i hi hn)⟩
def dkW : List (List UInt8) := [[104, 101, 108, 100], [99, 97, 109, 101], [115, 104, 105, 112, 112, 101, 100], [112, 117, 108, 112, 101, 100], [114, 111, 108, 108, 115, 32, 55], [114, 111, 108, 108, 115, 32, 57, 57, 57, 57], [114, 111, 108, 108, 115, 32, 48, 55], [104, 101, 108, 112], []]
theorem dkW_len : ∀ x ∈ dkW, x.length ≤ 10 := by unfold dkW; decide
def DkPost (w : World) (e : Ending) (w' : World) : Prop := ∃ (l : List UInt8) (z : ByteArray) (u : Value) (ls : List (List UInt8)), e = .returned (.tuple #[.string z, u]) ∧ z = TB l ∧ l.length ≤ 6061 ∧ OwnS w' w.heap.size 9 u ls ∧ ls.length ≤ 6 ∧ (∀ x ∈ ls, x.length ≤ 10) ∧ Below w.heap.size w w'
set_option maxRecDepth 100000 in
set_option maxHeartbeats 4000000 in
theorem DrawRunDesk_any (v : Value) (xs : List Int) (w : World) (h : Bytes w 0 w.heap.size v xs) :
    Calls Tryz.prog 20 #[v] w fun e w' => DkPost w e w' := by
  have hv : ∃ A n c, v = .slice A n c := by obtain ⟨A, c, e, _⟩ := h; exact ⟨A, _, c, e⟩
  obtain ⟨A0, n0, c0, rfl⟩ := hv
  go_enter Tryz.func20, Tryz.ntmps20
  go_wp2_with fail
  refine (newReader_any _ xs w h).mono ?_
  rintro e w2 ⟨rv, rfl, hr2, bx⟩
  have hz2 := hr2.lt
  have hs2 := bx.size
  have HB2 := Lib.hid bx
  clear h bx
  go_wp2_with fail
  refine (bookText_any _ _ _ _ w2 hr2 (by omega)).mono ?_
  rintro e w3 ⟨l, k3, rfl, hl, hk3, hr3, bg⟩
  obtain ⟨zt, hzt⟩ : ∃ z, z = TB l := ⟨_, rfl⟩
  rw [← hzt]
  have HZ := Lib.hid hzt
  have HL := Lib.hid hl
  have hz3 : w2.heap.size ≤ w3.heap.size := bg.size
  obtain ⟨wa, hwa⟩ : ∃ wa, wa = w3.alloc (.cells #[] 9) := ⟨_, rfl⟩
  have b4 : Below w3.heap.size w3 wa := by rw [hwa]; exact (Below.refl _ _).alloc (Nat.le_refl _) _
  have HE0 := Lib.hid (show OwnS wa w2.heap.size 9 (.slice (some ⟨w3.heap.size, 0, none⟩) 0 0) [] by rw [hwa]; exact OwnS.empty w3 _ _ (by omega))
  have hr4 := hr3.below b4
  have HG4 := Lib.hid (grown_trans bg (grown_below b4 (some w.heap.size)))
  have HZa := Lib.hid (show wa.heap.size = w3.heap.size + 1 by rw [hwa]; simp)
  have HWA := Lib.hid hwa
  have hz4 : w3.heap.size < wa.heap.size := by rw [hwa]; simp
  clear hzt hl bg b4 hr2 hr3 hwa
  go_wp2_with fail
  rw [← HWA.out]
  refine (one_lit _ _ _ _ [4, 6, 2, 0] wa _ _ _ hr4 (by omega) rfl rfl HZa.out.symm (by simp) (by simp) (by unfold I64; simp)).mono ?_
  rintro e w5 ⟨n0, rfl, hn, hr5, bg5⟩
  have hn0 : 0 ≤ n0 ∧ n0 ≤ 6 := by simp only [List.mem_cons, List.not_mem_nil, or_false] at hn; omega
  obtain ⟨n0, rfl⟩ := Int.eq_ofNat_of_zero_le hn0.1
  have HO0 := Lib.hid (HE0.out.grownK bg5 (by omega))
  have HG0 := Lib.hid (grown_trans HG4.out bg5)
  have HR0 := Lib.hid hr5
  clear hr4 hr5 bg5 hn HE0 HG4 HWA HZa
  go_wp2
  go_loopw [6, 7] (fun o n wr => ∃ (n' k' : Nat) (ls : List (List UInt8)), n = .int .i64 n' ∧ n' ≤ 6 ∧ k' + n' ≤ k3 + 1 + 6 ∧ OwnS wr w2.heap.size 9 o ls ∧ ls.length + n' ≤ 6 ∧ Hid (∀ x ∈ ls, x.length ≤ 10) ∧ Hid (Rdr wr w.heap.size k' w.heap.size rv) ∧ Hid (w2.grownBy wr (some w.heap.size))) (fun _ n _ => (intOf n).toNat)
  case atStart => exact ⟨n0, k3 + 1, [], rfl, by omega, by omega, HO0.out, by simp; omega, (fun x hx => by cases hx), HR0.out, HG0.out⟩
  case round =>
    clear HO0 HG0 HR0 hn0
    obtain ⟨n, k1, ls, rfl, hn6, hkn, hown, hll, HX, HR, HG⟩ := hrel
    obtain ⟨wo, rfl⟩ : ∃ wo : World, wo = wr := ⟨_, rfl⟩
    have hfo := hown.form
    obtain ⟨A, c, rfl, hc, hm⟩ := hfo
    have HO := Lib.hid hown
    have hzr : w2.heap.size ≤ wo.heap.size := HG.out.size
    clear hown
    by_cases hgo : 0 < n
    rotate_left
    · have hn2 : ¬ (n : Int) > 0 := by omega
      have hn3 : ¬ (0 : Int) < (n : Int) := by omega
      have HBF := Lib.hid (HB2.out.trans (below_of_grown HG.out (B := w.heap.size) (by omega) (by omega)))
      go_wp2
      go_ret2
      exact ⟨l, zt, _, ls, rfl, HZ.out, HL.out, HO.out.base (by omega), by omega, HX.out, HBF.out⟩
    have hn1 : (n : Int) > 0 := by omega
    have hn2 : (0 : Int) < (n : Int) := by omega
    have hk9 : k1 ≤ 400 := by omega
    go_wp2_with fail
    refine (of_lit _ _ _ _ dkW wo _ _ _ HR.out (by omega) rfl rfl rfl (by decide) (by decide)).mono ?_
    rintro e w6 ⟨r, rfl, hr, hr6, bg6⟩
    have HRL := Lib.hid (dkW_len r hr)
    have HO6 := Lib.hid (HO.out.grownK bg6 (by omega))
    have HG6 := Lib.hid (grown_trans HG.out bg6)
    have hz6 : wo.heap.size ≤ w6.heap.size := bg6.size
    have HR6 := Lib.hid hr6
    obtain ⟨zr, hzr2⟩ : ∃ z, z = TB r := ⟨_, rfl⟩
    rw [← hzr2]
    have HZR := Lib.hid hzr2
    clear hr hr6 bg6 hzr2 HO HG HR
    go_wp2_with (at_builtin; refine wpList_appendS SlSt w6 rfl (.tmp 20) (.tmp 24) rfl r (.string zr) (by rw [HZR.out]) w2.heap.size _ ls rfl rfl HO6.out (by omega) (by omega) (by omega) ?_; intro v7 w7 ho7 hg7; have HO7 := Lib.hid ho7; have HR7 := Lib.hid (HR6.out.grewD hg7 (by omega)); have HG7 := Lib.hid (grown_thenD HG6.out hg7.below (by omega)); clear ho7 hg7)
    go_roundw
    case rel => exact ⟨n - 1, k1 + 1, ls ++ [r], by go_num, by omega, by omega, HO7.out, by rw [List.length_append, List.length_singleton]; omega, (fun x hx => by
        rcases List.mem_append.1 hx with hx | hx
        · exact HX.out x hx
        · rw [List.mem_singleton.1 hx]; exact HRL.out), HR7.out, HG7.out⟩
    case measure => simp [intOf]; omega
end Go.Proofs.YtkgepklapglmdaaGreatDoor

namespace Go.Proofs.YtkgepklapglmdaaGreatDoor
open Go.RowKit
attribute [local go_sem ↓] Go.wp_at_zero Go.wp_at_succ

theorem Rd.takeD {w : World} {lo hi k n m : Nat} {A : Option Addr} {us vs : List Value} (h : Rd w lo hi k A n us) (hm : m ≤ n) (hl : vs.length = m * k) (hv : ∀ j, j < m * k → vs[j]? = us[j]?) : Rd w lo hi k A m vs := by
  refine ⟨hl, fun h0 => ?_⟩
  obtain ⟨b, o, e, h1, h2, h3⟩ := h.2 (by omega)
  refine ⟨b, o, e, h1, h2, fun j u hu => ?_⟩
  have hj : j < m * k := by rw [← hl]; exact (List.getElem?_eq_some_iff.1 hu).1
  exact h3 j u (by rw [← hv j hj]; exact hu)
theorem Strs.takeD {w : World} {lo hi n c : Nat} {A : Option Addr} {xs : List (List UInt8)} (h : Strs w lo hi (.slice A n c) xs) {i : Nat} (hix : i ≤ xs.length) : Strs w lo hi (.slice A i c) (xs.take i) := by
  obtain ⟨A', c', e, h1, h2, hr⟩ := h
  obtain ⟨rfl, _, rfl⟩ : A = A' ∧ n = xs.length ∧ c = c' := by simpa using e
  have hl : (xs.take i).length = i := by rw [List.length_take]; omega
  refine ⟨A, c, by rw [hl], by rw [hl]; omega, h2, ?_⟩
  rw [hl]
  refine hr.takeD (vs := sV (xs.take i)) hix (by unfold sV; rw [List.length_map, hl, Nat.mul_one]) fun j hj => ?_
  unfold sV
  rw [List.map_take, List.getElem?_take, if_pos (by omega)]
set_option maxRecDepth 100000 in
set_option maxHeartbeats 4000000 in
theorem FnRunDesk_walk (B : Nat) (v : Value) (xs : List Int) (w : World) (hp : Pow B w) (hsh : w.ShapedOpen Tryz.prog) (h : Bytes w 0 w.heap.size v xs) :
    Calls Tryz.prog 5 #[v] w fun e w' => e = .returned (.bool true) ∧ Below w.heap.size w w' := by
  have hv : ∃ A c, v = .slice A xs.length c ∧ xs.length ≤ c ∧ c ≤ 2 ^ 63 - 1 := by obtain ⟨A, c, e, h1, h2, _⟩ := h; exact ⟨A, c, e, h1, by unfold maxLen at h2; omega⟩
  obtain ⟨A0, c0, rfl, hc0, hm0⟩ := hv
  have HP := Lib.hid hp
  have HSH := Lib.hid hsh
  clear hp hsh
  by_cases hl : 1048576 < xs.length
  · have hl' : (1048576 : Int) < (xs.length : Int) := by omega
    go_enter Tryz.func5, Tryz.ntmps5
    go_wp2
    go_ret
    exact ⟨rfl, Below.refl _ _⟩
  have hl' : ¬ (1048576 : Int) < (xs.length : Int) := by omega
  go_enter Tryz.func5, Tryz.ntmps5
  go_wp2_with fail
  refine (DrawRunDesk_any _ xs w h).mono ?_
  rintro e w2 ⟨l, zb, u, ls, rfl, hzb, hl6, ols, hls6, hx10, b2⟩
  obtain ⟨A, c, rfl, hc, hm⟩ := ols.form
  have HZ := Lib.hid hzb
  have HX10 := Lib.hid (show ∀ x ∈ ls, x.length ≤ 1048576 from fun x hx => by have := hx10 x hx; omega)
  have HS2 := Lib.hid ols.strs
  obtain ⟨n, hn⟩ : ∃ n, n = ls.length := ⟨_, rfl⟩
  have hn6 : n ≤ 6 := by omega
  have HN := Lib.hid hn
  obtain ⟨R, hR⟩ : ∃ R, R = rdL (rbD l) ls := ⟨_, rfl⟩
  have HR := Lib.hid hR
  have HRE := Lib.hid (show R = deskL (rbD l) ls by rw [hR]; unfold rdL; rw [if_pos (by omega)])
  have HRL := Lib.hid (show R.length ≤ 66 by rw [HRE.out]; have := deskL_len (r := rbD l) rbD_ok ls; omega)
  obtain ⟨zt, hzt⟩ : ∃ z, z = TB R := ⟨_, rfl⟩
  have HZT := Lib.hid hzt
  have hzz : (zt.toList == zt.toList) = true := by simp
  have hzn : (zt.toList != zt.toList) = false := by simp
  obtain ⟨s, hs⟩ : ∃ s, s = zt.size := ⟨_, rfl⟩
  have hss : zt.size = s := hs.symm
  have hsR : s = R.length := by rw [hs, hzt, TB_size]
  have HSR := Lib.hid hsR
  have hs66 : s ≤ 66 := by have := HRL.out; omega
  have HB2 := Lib.hid b2
  have s2 : w.heap.size ≤ w2.heap.size := b2.size
  rw [← hn] at hc ⊢
  have HSN := Lib.hid (show Strs w2 w.heap.size w2.heap.size (.slice A n c) ls by rw [hn]; exact HS2.out)
  clear h hl hl' b2 ols hzb hx10 hn hR hzt hs hsR HS2
  go_wp2_with fail
  refine (RunDeskI_any B _ _ _ l zb HZ.out ls w2 (HP.out.below HB2.out) (shaped_below HSH.out HB2.out) HSN.out (Nat.le_refl _) (by omega) HX10.out).mono ?_
  rw [← HR.out, ← HZT.out]
  rintro e w3 ⟨rfl, b3⟩
  have HB3 := Lib.hid (HB2.out.trans (b3.mono s2))
  have HS3 := Lib.hid (HSN.out.below b3 (Nat.le_refl _))
  have s3 : w2.heap.size ≤ w3.heap.size := b3.size
  clear b3 HSN
  go_wp2_with fail
  refine (RunDeskS_any _ _ _ l zb HZ.out ls w3 HS3.out s3 (by omega) HX10.out).mono ?_
  rw [← HR.out, ← HZT.out]
  rintro e w4 ⟨rfl, b4⟩
  have HB4 := Lib.hid (HB3.out.trans (b4.mono (by omega)))
  have HS4 := Lib.hid (HS3.out.below b4 s3)
  have s4 : w3.heap.size ≤ w4.heap.size := b4.size
  have hn20 : ¬ (20 : Int) < (n : Int) := by omega
  have hn20' : ¬ (n : Int) > 20 := by omega
  clear b4 HS3
  go_wp2
  go_loopw [6, 7] (fun i _ wr => ∃ j : Nat, j ≤ n + 1 ∧ i = .int .i64 (j : Int) ∧ Hid (Below w.heap.size w wr) ∧ Hid (Strs wr w.heap.size w2.heap.size (.slice A n c) ls) ∧ w2.heap.size ≤ wr.heap.size) (fun i _ _ => n + 1 - (intOf i).toNat)
  case atStart => exact ⟨0, by omega, rfl, HB4, HS4, by omega⟩
  case round =>
    obtain ⟨j, hj2, rfl, HBr, HTr, hsr⟩ := hrel
    by_cases hlt : j ≤ n
    rotate_left
    · have hnj : ¬ (j : Int) ≤ (n : Int) := by omega
      have HCN := Lib.hid (show R.count 10 = n by rw [HRE.out, deskL_count, HN.out])
      go_wp2_with fail
      refine (newlines_any R zt HZT.out _ (by have := HRL.out; omega)).mono ?_
      rw [HCN.out]
      rintro e wx ⟨rfl, rfl⟩
      have hRR : ((n : Int) == (n : Int)) = true := beq_t rfl
      go_wp2
      go_ret
      exact ⟨rfl, HBr.out⟩
    have j0 : (0 : Int) ≤ (j : Int) := by omega
    have j1 : (j : Int) ≤ (n : Int) := by omega
    have j2 : (j : Int) ≤ (c : Int) := by omega
    have hjc : j ≤ c := by omega
    have hjl : j ≤ ls.length := by have := HN.out; omega
    have HTK := Lib.hid (HTr.out.takeD hjl)
    have HX9 := Lib.hid (show ∀ x ∈ ls.take j, x.length ≤ 1048576 from fun x hx => HX10.out x (List.mem_of_mem_take hx))
    obtain ⟨R', hR'⟩ : ∃ R', R' = rdL (rbD l) (ls.take j) := ⟨_, rfl⟩
    have HR' := Lib.hid hR'
    have hpre : R' <+: R := by
      rw [hR', HRE.out]
      unfold rdL
      rw [if_pos (by rw [List.length_take]; omega)]
      exact deskL_pre _ _ _
    obtain ⟨ze, hze⟩ : ∃ z, z = TB R' := ⟨_, rfl⟩
    have HZE := Lib.hid hze
    obtain ⟨m, hm⟩ : ∃ m, m = ze.size := ⟨_, rfl⟩
    have hsm : ze.size = m := hm.symm
    have hmR : m = R'.length := by rw [hm, hze, TB_size]
    have hms : m ≤ s := by have := HSR.out; have := (take_of_prefix hpre).1; omega
    have hex : zt.extract 0 m = ze := by rw [HZT.out, TB_ext, hze, hmR]; simp only [List.drop_zero, Nat.sub_zero]; rw [(take_of_prefix hpre).2]
    have hzze : (ze.toList == ze.toList) = true := by simp
    have hzne : (ze.toList != ze.toList) = false := by simp
    have m0 : (0 : Int) ≤ (m : Int) := by omega
    have m1 : (m : Int) ≤ (s : Int) := by omega
    have m2 : ¬ (m : Int) > (s : Int) := by omega
    have m3 : ¬ (s : Int) < (m : Int) := by omega
    clear hR' hpre hze hm hmR
    go_wp2_with fail
    refine (RunDeskI_any B _ _ _ l zb HZ.out (ls.take j) wr (HP.out.below HBr.out) (shaped_below HSH.out HBr.out) HTK.out hsr (by omega) HX9.out).mono ?_
    rw [← HR'.out, ← HZE.out]
    rintro e wa ⟨rfl, ba⟩
    have HBa := Lib.hid (HBr.out.trans (ba.mono HBr.out.size))
    have HTa := Lib.hid (HTr.out.below ba hsr)
    have hsa : wr.heap.size ≤ wa.heap.size := ba.size
    have gj : IntKind.i64.wrap ((j : Int) + 1) = ((j + 1 : Nat) : Int) := IntWalk.i64_in _ (by omega)
    clear ba HTr HTK HBr
    go_wp2
    go_roundw
    case rel => exact ⟨j + 1, by omega, by go_num, HBa, HTa, by omega⟩
    case measure => simp [intOf]; omega
end Go.Proofs.YtkgepklapglmdaaGreatDoor

namespace Go.Proofs.YtkgepklapglmdaaGreatDoor
open Go.RowKit
attribute [local go_sem ↓] Go.wp_at_zero Go.wp_at_succ

def rolls7 : List UInt8 := [114, 111, 108, 108, 115, 32, 55]
theorem ansL_7 (m : Mil) : ansL m rolls7 = if entI m.es 7 < 0 then wNone else Lib.decDigits (ge m.es (entI m.es 7).toNat).ps.length := by
  have h : rollsN rolls7 = 7 := by decide
  unfold ansL
  rw [if_neg (by decide), if_neg (by decide), if_neg (by decide), if_neg (by decide), h, if_neg (by decide)]
theorem dec_one {n : Nat} (h : n < 10) : Lib.decDigits n = [UInt8.ofNat (48 + n)] := by rw [Lib.decDigits, dif_pos h]
theorem dec_two {n : Nat} (h : ¬ n < 10) (h2 : n < 100) : Lib.decDigits n = [UInt8.ofNat (48 + n / 10), UInt8.ofNat (48 + n % 10)] := by
  rw [Lib.decDigits, dif_neg h, dec_one (show n / 10 < 10 by omega)]; rfl
theorem digit_ext {n : Nat} (h : n < 10) : (⟨#[48, 49, 50, 51, 52, 53, 54, 55, 56, 57]⟩ : ByteArray).extract n (n + 1) = TB [UInt8.ofNat (48 + n)] := by
  rw [show (⟨#[48, 49, 50, 51, 52, 53, 54, 55, 56, 57]⟩ : ByteArray) = TB [48, 49, 50, 51, 52, 53, 54, 55, 56, 57] from rfl, TB_ext]
  have : n = 0 ∨ n = 1 ∨ n = 2 ∨ n = 3 ∨ n = 4 ∨ n = 5 ∨ n = 6 ∨ n = 7 ∨ n = 8 ∨ n = 9 := by omega
  rcases this with rfl | rfl | rfl | rfl | rfl | rfl | rfl | rfl | rfl | rfl <;> rfl
theorem RunDesk_one (B b : Nat) (l m : List UInt8) (s z : ByteArray) (hs : s = TB l) (hz : z = TB m) (w : World) (hp : Pow B w) (hsh : w.ShapedOpen Tryz.prog) (hb : b = w.heap.size) (hl : l.length ≤ 1048577) (hm : m.length ≤ 1048576) :
    Calls Tryz.prog 18 #[.string s, .slice (some ⟨b, 0, none⟩) 1 1] (w.alloc (.cells #[.string z] 9)) fun e w' => e = .returned (.string (TB (rdL (rbD l) [m]))) ∧ Below w.heap.size w w' := by
  subst hb
  have bl : Below w.heap.size w (w.alloc (.cells #[.string z] 9)) := (Below.refl _ _).alloc (Nat.le_refl _) _
  refine (RunDeskI_any B _ _ _ l s hs [m] _ (hp.below bl) (shaped_below hsh bl) (strs_made w 9 [m] #[.string z] (by rw [hz]; rfl) (by unfold maxLen; simp) 1 rfl) (by simp) hl (by simpa using hm)).mono ?_
  rintro e w' ⟨rfl, b'⟩
  exact ⟨rfl, bl.trans (b'.mono bl.size)⟩
set_option maxRecDepth 100000 in
set_option maxHeartbeats 4000000 in
theorem FnRunDeskRolls_walk (B : Nat) (v : Value) (xs : List Int) (w : World) (hp : Pow B w) (hsh : w.ShapedOpen Tryz.prog) (h : Bytes w 0 w.heap.size v xs) :
    Calls Tryz.prog 6 #[v] w fun e w' => e = .returned (.bool true) ∧ Below w.heap.size w w' := by
  have hv : ∃ A c, v = .slice A xs.length c ∧ xs.length ≤ c ∧ c ≤ 2 ^ 63 - 1 := by obtain ⟨A, c, e, h1, h2, _⟩ := h; exact ⟨A, c, e, h1, by unfold maxLen at h2; omega⟩
  obtain ⟨A0, c0, rfl, hc0, hm0⟩ := hv
  have HP := Lib.hid hp
  have HSH := Lib.hid hsh
  clear hp hsh
  by_cases hl : 1048576 < xs.length
  · have hl' : (1048576 : Int) < (xs.length : Int) := by omega
    go_enter Tryz.func6, Tryz.ntmps6
    go_wp2
    go_ret
    exact ⟨rfl, Below.refl _ _⟩
  have hl' : ¬ (1048576 : Int) < (xs.length : Int) := by omega
  go_enter Tryz.func6, Tryz.ntmps6
  go_wp2_with fail
  refine (DrawRunDesk_any _ xs w h).mono ?_
  rintro e w2 ⟨l, zb, u, ls, rfl, hzb, hl6, ols, hls6, hx10, b2⟩
  obtain ⟨A, c, rfl, hc, hm⟩ := ols.form
  have HZ := Lib.hid hzb
  have HX10 := Lib.hid (show ∀ x ∈ ls, x.length ≤ 1048576 from fun x hx => by have := hx10 x hx; omega)
  obtain ⟨R, hR⟩ : ∃ R, R = rdL (rbD l) ls := ⟨_, rfl⟩
  have HR := Lib.hid hR
  obtain ⟨zt, hzt⟩ : ∃ z, z = TB R := ⟨_, rfl⟩
  have HZT := Lib.hid hzt
  have hzn : (zt.toList != zt.toList) = false := by simp
  have HB2 := Lib.hid b2
  have s2 : w.heap.size ≤ w2.heap.size := b2.size
  obtain ⟨n, hn⟩ : ∃ n, n = ls.length := ⟨_, rfl⟩
  rw [← hn] at hc ⊢
  have HSN := Lib.hid (show Strs w2 w.heap.size w2.heap.size (.slice A n c) ls by rw [hn]; exact ols.strs)
  clear h hl hl' b2 ols hzb hx10 hR hzt hn
  go_wp2_with fail
  refine (RunDeskI_any B _ _ _ l zb HZ.out ls w2 (HP.out.below HB2.out) (shaped_below HSH.out HB2.out) HSN.out (Nat.le_refl _) (by omega) HX10.out).mono ?_
  rw [← HR.out, ← HZT.out]
  rintro e w3 ⟨rfl, b3⟩
  have HB3 := Lib.hid (HB2.out.trans (b3.mono s2))
  have HS3 := Lib.hid (HSN.out.below b3 (Nat.le_refl _))
  have s3 : w2.heap.size ≤ w3.heap.size := b3.size
  clear b3 HSN
  go_wp2_with fail
  refine (RunDeskS_any _ _ _ l zb HZ.out ls w3 HS3.out s3 (by omega) HX10.out).mono ?_
  rw [← HR.out, ← HZT.out]
  rintro e w4 ⟨rfl, b4⟩
  have HB4 := Lib.hid (HB3.out.trans (b4.mono (by omega)))
  have s4 : w.heap.size ≤ w4.heap.size := by have := b4.size; omega
  clear b4 HS3
  go_wp2_with fail
  refine (RecoverBookI_any l zb HZ.out w4 (by omega) (shaped_below HSH.out HB4.out)).mono ?_
  rintro e w5 ⟨v5, rfl, o5, b5⟩
  have hts := o5.ts
  have HET := Lib.hid (show evT (evD (recB l)) = recB l from evT_evD fun x hx => by obtain ⟨_, _, _, _, _, _, h7⟩ := hts; exact (h7 x hx).1)
  rw [← HET.out] at hts
  obtain ⟨evs, hevs⟩ : ∃ evs, evs = evD (recB l) := ⟨_, rfl⟩
  have HEV := Lib.hid hevs
  rw [← hevs] at hts
  obtain ⟨A5, c5, rfl, _⟩ := hts.form
  have HTS := Lib.hid hts
  have HB5 := Lib.hid (HB4.out.trans (b5.mono s4))
  have s5 : w4.heap.size ≤ w5.heap.size := b5.size
  clear o5 b5 hts hevs HET
  go_wp2_with fail
  refine (RunBook_any _ _ _ evs w5 HTS.out (Nat.le_refl _)).mono ?_
  intro e w6 hpost
  obtain ⟨v6, rfl, he6, b6⟩ := hpost
  obtain ⟨r, hr⟩ : ∃ r, r = rbD l := ⟨_, rfl⟩
  have HRR := Lib.hid hr
  rw [show rbV evs = r by rw [hr, HEV.out]; exact rbV_D l] at he6 ⊢
  have HOK := Lib.hid (show ∀ m, r = some m → vMill m.es m.a m.b m.z = true by rw [hr]; exact rbD_ok)
  obtain ⟨rs, hrs⟩ : ∃ rs, rs = r.isSome := ⟨_, rfl⟩
  obtain ⟨⟨es, a, b, z⟩, hM⟩ : ∃ M, M = r.getD Mil.nil := ⟨_, rfl⟩
  rw [← hM] at he6 ⊢
  rw [← hrs]
  have HC := Lib.hid (show (rs = true ∧ r = some ⟨es, a, b, z⟩) ∨ (rs = false ∧ r = none) by
    cases r with
    | none => exact .inr ⟨hrs, rfl⟩
    | some m => exact .inl ⟨hrs, by rw [hM]; rfl⟩)
  dsimp only at he6 ⊢
  obtain ⟨A6, c6, rfl, _⟩ := he6.es.form
  have HB6 := Lib.hid (HB5.out.trans (b6.mono (by omega)))
  have s6 : w5.heap.size ≤ w6.heap.size := b6.size
  clear b6 hr hrs hM HTS HEV
  obtain ⟨zq, hzq⟩ : ∃ z : ByteArray, z = ⟨#[114, 111, 108, 108, 115, 32, 55]⟩ := ⟨_, rfl⟩
  have HZQ := Lib.hid (show (⟨#[114, 111, 108, 108, 115, 32, 55]⟩ : ByteArray) = TB rolls7 from rfl)
  clear hzq zq
  obtain ⟨T, hT⟩ : ∃ T, T = oneL r rolls7 ++ [10] := ⟨_, rfl⟩
  have HT := Lib.hid hT
  have HTD := Lib.hid (show rdL (rbD l) [rolls7] = T by rw [hT, HRR.out]; unfold rdL; rw [if_pos (by simp)]; simp [deskL])
  clear hT
  go_wp2_with fail
  obtain ⟨w7, hw1⟩ : ∃ w7, w7 = w6.alloc (.cells #[.slice A6 es.length c6, .int .i64 a, .int .i64 b, .int .i64 z] 25) := ⟨_, rfl⟩
  have x0 : w7.cell? ⟨w6.heap.size, 0, none⟩ = some (.slice A6 es.length c6) := by rw [hw1]; go_simp
  have x1 : w7.cell? ⟨w6.heap.size, 1, none⟩ = some (.int .i64 a) := by rw [hw1]; go_simp
  have x2 : w7.cell? ⟨w6.heap.size, 2, none⟩ = some (.int .i64 b) := by rw [hw1]; go_simp
  have x3 : w7.cell? ⟨w6.heap.size, 3, none⟩ = some (.int .i64 z) := by rw [hw1]; go_simp
  have bx : Below w6.heap.size w6 w7 := by rw [hw1]; exact (Below.refl _ _).alloc (Nat.le_refl _) _
  have zx : w6.heap.size < w7.heap.size := by rw [hw1]; simp
  have HZx := Lib.hid (show w7.heap.size = w6.heap.size + 1 by rw [hw1]; simp)
  have fx0 : w7.frozen? ⟨w6.heap.size, 0, none⟩ = false := by rw [hw1]; go_simp
  have fx1 : w7.frozen? ⟨w6.heap.size, 1, none⟩ = false := by rw [hw1]; go_simp
  have fx2 : w7.frozen? ⟨w6.heap.size, 2, none⟩ = false := by rw [hw1]; go_simp
  have fx3 : w7.frozen? ⟨w6.heap.size, 3, none⟩ = false := by rw [hw1]; go_simp
  have Hx := Lib.hid (show w7.heap[w6.heap.size]? = some (.cells #[.slice A6 es.length c6, .int .i64 a, .int .i64 b, .int .i64 z] 25) by rw [hw1]; exact heap_alloc_new w6 _)
  rw [← hw1]
  clear hw1
  have he7 := he6.es.below bx (Nat.le_refl _)
  have HB7 := Lib.hid (HB6.out.trans (bx.mono HB6.out.size))
  have s7 : w6.heap.size ≤ w7.heap.size := bx.size
  clear bx Hx he6 fx0 fx1 fx2 fx3
  obtain ⟨za, hza⟩ : ∃ z, z = TB T := ⟨_, rfl⟩
  have HZA := Lib.hid hza
  clear hza
  refine (RunDesk_one B (w6.heap.size + 1) l rolls7 zb _ HZ.out HZQ.out w7 (HP.out.below HB7.out) (shaped_below HSH.out HB7.out) HZx.out.symm (by omega) (by decide)).mono ?_
  rw [HTD.out, ← HZA.out]
  rintro e w8 ⟨rfl, b8⟩
  have he8 := he7.below b8 s7
  have HB8 := Lib.hid (HB7.out.trans (b8.mono HB7.out.size))
  have s8 : w7.heap.size ≤ w8.heap.size := b8.size
  replace x0 := keepB b8 x0; replace x1 := keepB b8 x1; replace x2 := keepB b8 x2; replace x3 := keepB b8 x3
  clear b8 he7
  rcases HC.out with ⟨rfl, hr⟩ | ⟨rfl, hr⟩
  rotate_left
  · have hza : za.toList = [99, 108, 111, 115, 101, 100, 10] := by rw [HZA.out, TB_toList, HT.out, hr]; rfl
    clear hr
    go_wp2
    go_ret
    exact ⟨rfl, HB8.out⟩
  have HV := Lib.hid (HOK.out _ hr)
  have HMS := Lib.hid (mill_sizes HV.out).2
  have HT2 := Lib.hid (show T = (if entI es 7 < 0 then wNone else Lib.decDigits (ge es (entI es 7).toNat).ps.length) ++ [10] by rw [HT.out, hr]; show ansL _ rolls7 ++ [10] = _; rw [ansL_7])
  clear hr
  go_wp2
  go_loopw [9, 10] (fun i _ wr => ∃ j : Nat, j ≤ es.length ∧ i = .int .i64 (j : Int) ∧ wr = w8 ∧ Hid (∀ k, k < j → (ge es k).lb ≠ 7)) (fun i _ _ => es.length - (intOf i).toNat)
  case atStart => exact ⟨0, Nat.zero_le _, rfl, rfl, fun k hk => absurd hk (by omega)⟩
  case round =>
    obtain ⟨j, hj, rfl, rfl, HN⟩ := hrel
    by_cases hlt : j < es.length
    rotate_left
    · have hnj : ¬ (j : Int) < (es.length : Int) := by omega
      have hza : za.toList = [110, 111, 110, 101, 10] := by
        rw [HZA.out, TB_toList, HT2.out]
        rcases entI_first es 7 with ⟨h1, _⟩ | ⟨i, _, hi, hl, _⟩
        · rw [if_pos (by omega)]; rfl
        · exact absurd hl (HN.out i (by omega))
      go_wp2
      go_ret
      exact ⟨rfl, HB8.out⟩
    have j0 : (0 : Int) ≤ (j : Int) := by omega
    have j1 : (j : Int) < (es.length : Int) := by omega
    obtain ⟨b9, o9, Ad, cd, Ap, cp, hA, _, _, g0, g1, g2, g3, g4, _⟩ := he8.cell hlt
    subst hA
    obtain ⟨y, hy⟩ : ∃ y, y = (ge es j).lb := ⟨_, rfl⟩
    have HY := Lib.hid hy
    obtain ⟨p, hp⟩ : ∃ p, p = (ge es j).ps.length := ⟨_, rfl⟩
    have HPL := Lib.hid hp
    rw [← hy] at g0
    rw [← hp] at g4
    have hp60 : p ≤ 60 := by rw [hp]; exact (vCuts_iff.1 (vEnt_iff.1 ((vMill_iff.1 HV.out).1 j hlt).1).2.2).2.1
    clear hy hp
    by_cases h7 : y = 7
    rotate_left
    · have e7 : (y == 7) = false := beq_f h7
      have gj : IntKind.i64.wrap ((j : Int) + 1) = ((j + 1 : Nat) : Int) := IntWalk.i64_in _ (by omega)
      have HN2 := Lib.hid (show ∀ k, k < j + 1 → (ge es k).lb ≠ 7 from fun k hk => by
        rcases Nat.lt_or_ge k j with h | h
        · exact HN.out k h
        · obtain rfl : k = j := by omega
          rw [← HY.out]; exact h7)
      clear h7
      go_wp2
      go_roundw
      case rel => exact ⟨j + 1, hlt, by go_num, by first | rfl | trivial, HN2.out⟩
      case measure => simp [intOf]; omega
    have e7 : (y == 7) = true := beq_t h7
    have HTP := Lib.hid (show T = Lib.decDigits p ++ [10] by
      rw [HT2.out]
      rcases entI_first es 7 with ⟨_, h2⟩ | ⟨i, h1, hi, hl, hf⟩
      · exact absurd (by rw [← HY.out]; exact h7) (h2 _ (ge_mem hlt))
      · have : i = j := by
          rcases Nat.lt_trichotomy i j with h | h | h
          · exact absurd hl (HN.out i h)
          · exact h
          · exact absurd (by rw [← HY.out]; exact h7) (hf j h)
        subst this
        rw [h1, if_neg (by omega), Int.toNat_natCast, ← HPL.out])
    clear h7
    by_cases hp10 : p < 10
    · have hp1 : (p : Int) < 10 := by omega
      have gp : IntKind.i64.wrap ((p : Int) + 1) = ((p + 1 : Nat) : Int) := IntWalk.i64_in _ (by omega)
      have p0 : (0 : Int) ≤ (p : Int) := by omega
      have p2 : (p : Int) ≤ ((p + 1 : Nat) : Int) := by omega
      have p3 : ((p + 1 : Nat) : Int) ≤ 10 := by omega
      obtain ⟨zd, hzd⟩ : ∃ z, z = (⟨#[48, 49, 50, 51, 52, 53, 54, 55, 56, 57]⟩ : ByteArray).extract p (p + 1) := ⟨_, rfl⟩
      have hex : (⟨#[48, 49, 50, 51, 52, 53, 54, 55, 56, 57]⟩ : ByteArray).extract p (p + 1) = zd := hzd.symm
      have hzd2 : zd = TB [UInt8.ofNat (48 + p)] := by rw [hzd]; exact digit_ext hp10
      have hzs : zd.size = 1 := by rw [hzd2]; rfl
      have hcat : zd ++ ⟨#[10]⟩ = za := by rw [HZA.out, HTP.out, dec_one hp10, hzd2, show (⟨#[10]⟩ : ByteArray) = TB [10] from rfl, TB_app]
      have hzz : (za.toList == za.toList) = true := by simp
      clear hzd hzd2 hp10
      go_wp2
      go_ret
      exact ⟨rfl, HB8.out⟩
    · have hp1 : ¬ (p : Int) < 10 := by omega
      have hd2 := dec_two hp10 (by omega)
      have HTT := Lib.hid (show T = [UInt8.ofNat (48 + p / 10), UInt8.ofNat (48 + p % 10), 10] by rw [HTP.out, hd2]; rfl)
      have hzs : za.size = 3 := by rw [HZA.out, TB_size, HTT.out]; rfl
      have hTl : T.length = 3 := by rw [HTT.out]; rfl
      obtain ⟨d, hd⟩ : ∃ d, d = p / 10 := ⟨_, rfl⟩
      obtain ⟨m, hm9⟩ : ∃ m, m = p % 10 := ⟨_, rfl⟩
      have hd6 : d ≤ 6 ∧ m ≤ 9 ∧ p = 10 * d + m := by omega
      have hb0 : gb T 0 = 48 + (d : Int) := by
        rw [gb_eq (by omega)]
        simp only [HTT.out, List.getElem_cons_zero, ← hd]
        rw [UInt8.toNat_ofNat_of_lt' (by show 48 + d < 256; omega)]; omega
      have hb1 : gb T 1 = 48 + (m : Int) := by
        rw [gb_eq (by omega)]
        simp only [HTT.out, List.getElem_cons_succ, List.getElem_cons_zero, ← hm9]
        rw [UInt8.toNat_ofNat_of_lt' (by show 48 + m < 256; omega)]; omega
      have hi0 : ∀ w : World, (Instr.index 9 (.string za) (.int .i64 0)).run Tryz.prog w = .ok (.int .u8 (48 + (d : Int))) w := fun w => by
        rw [← hb0]; exact idx_run T za HZA.out 0 (by omega) w
      have hi1 : ∀ w : World, (Instr.index 9 (.string za) (.int .i64 1)).run Tryz.prog w = .ok (.int .u8 (48 + (m : Int))) w := fun w => by
        rw [← hb1]; exact idx_run T za HZA.out 1 (by omega) w
      have e3 : ((3 : Int) == 3) = true := rfl
      have u0 : IntKind.u8.wrap (48 + (d : Int) - 48) = (d : Int) := by rw [IntWalk.u8_in _ (by omega)]; omega
      have u1 : IntKind.u8.wrap (48 + (m : Int) - 48) = (m : Int) := by rw [IntWalk.u8_in _ (by omega)]; omega
      have v0 : IntKind.i64.wrap (d : Int) = (d : Int) := IntWalk.i64_in _ (by omega)
      have v1 : IntKind.i64.wrap (m : Int) = (m : Int) := IntWalk.i64_in _ (by omega)
      have v2 : IntKind.i64.wrap ((d : Int) * 10) = (d : Int) * 10 := IntWalk.i64_in _ (by omega)
      have v3 : IntKind.i64.wrap ((d : Int) * 10 + (m : Int)) = (p : Int) := by rw [IntWalk.i64_in _ (by omega)]; omega
      have e4 : ((p : Int) == (p : Int)) = true := beq_t rfl
      clear hd hm9 hd6 hb0 hb1 hd2 hTl hp10
      go_wp2
      refine wp_region_held_drew (S := fun w' => True) (by kernel_rfl) ?_ (fun hHeld => ?_)
      · trivial
      refine wpAnyH_take (i := 0) (oi := ⟨some 70, _, _, _, _, _⟩) (v := _) rfl (by kernel_rfl) (by kernel_rfl) (by kernel_rfl) (fun _ _ _ h => h) (Or.inl ⟨by kernel_rfl, by intro w hSw; (try dsimp only at hSw); go_simp; try with_reducible rfl⟩) (by assumption) ?_
      simp only [Act.put, List.setIfInBounds_toArray, List.set_cons_zero, List.set_cons_succ]
      refine wpAnyH_take (i := 1) (oi := ⟨some 71, _, _, _, _, _⟩) (v := _) rfl (by kernel_rfl) (by kernel_rfl) (by kernel_rfl) (fun _ _ _ h => h) (Or.inl ⟨by kernel_rfl, by intro w hSw; (try dsimp only at hSw); go_simp; try with_reducible rfl⟩) (by assumption) ?_
      simp only [Act.put, List.setIfInBounds_toArray, List.set_cons_zero, List.set_cons_succ]
      refine wpAnyH_take (i := 2) (oi := ⟨some 72, _, _, _, _, _⟩) (v := _) rfl (by kernel_rfl) (by kernel_rfl) (by kernel_rfl) (fun _ _ _ h => h) (Or.inl ⟨by kernel_rfl, by intro w hSw; (try dsimp only at hSw); go_simp; try with_reducible rfl⟩) (by assumption) ?_
      simp only [Act.put, List.setIfInBounds_toArray, List.set_cons_zero, List.set_cons_succ]
      refine wpAnyH_take (i := 3) (oi := ⟨some 73, _, _, _, _, _⟩) (v := _) rfl (by kernel_rfl) (by kernel_rfl) (by kernel_rfl) (fun _ _ _ h => h) (Or.inl ⟨by kernel_rfl, by intro w hSw; (try dsimp only at hSw); go_simp; try with_reducible rfl⟩) (by assumption) ?_
      simp only [Act.put, List.setIfInBounds_toArray, List.set_cons_zero, List.set_cons_succ]
      refine wpAnyH_take (i := 4) (oi := ⟨some 74, _, _, _, _, _⟩) (v := _) rfl (by kernel_rfl) (by kernel_rfl) (by kernel_rfl) (fun _ _ _ h => h) (Or.inl ⟨by kernel_rfl, by intro w hSw; (try dsimp only at hSw); go_simp; try with_reducible rfl⟩) (by assumption) ?_
      simp only [Act.put, List.setIfInBounds_toArray, List.set_cons_zero, List.set_cons_succ]
      refine wpAnyH_take (i := 5) (oi := ⟨some 75, _, _, _, _, _⟩) (v := _) rfl (by kernel_rfl) (by kernel_rfl) (by kernel_rfl) (fun _ _ _ h => h) (Or.inl ⟨by kernel_rfl, by intro w hSw; (try dsimp only at hSw); go_simp; try with_reducible rfl⟩) (by assumption) ?_
      simp only [Act.put, List.setIfInBounds_toArray, List.set_cons_zero, List.set_cons_succ]
      refine wpAnyH_take (i := 6) (oi := ⟨some 76, _, _, _, _, _⟩) (v := _) rfl (by kernel_rfl) (by kernel_rfl) (by kernel_rfl) (fun _ _ _ h => h) (Or.inl ⟨by kernel_rfl, by intro w hSw; (try dsimp only at hSw); go_simp; try with_reducible rfl⟩) (by assumption) ?_
      simp only [Act.put, List.setIfInBounds_toArray, List.set_cons_zero, List.set_cons_succ]
      refine wpAnyH_take (i := 7) (oi := ⟨some 77, _, _, _, _, _⟩) (v := _) rfl (by kernel_rfl) (by kernel_rfl) (by kernel_rfl) (fun _ _ _ h => h) (Or.inl ⟨by kernel_rfl, by intro w hSw; (try dsimp only at hSw); go_simp; try with_reducible rfl⟩) (by assumption) ?_
      simp only [Act.put, List.setIfInBounds_toArray, List.set_cons_zero, List.set_cons_succ]
      refine wpAnyH_take (i := 8) (oi := ⟨some 78, _, _, _, _, _⟩) (v := _) rfl (by kernel_rfl) (by kernel_rfl) (by kernel_rfl) (fun _ _ _ h => h) (Or.inl ⟨by kernel_rfl, by intro w hSw; (try dsimp only at hSw); go_simp; try with_reducible rfl⟩) (by assumption) ?_
      simp only [Act.put, List.setIfInBounds_toArray, List.set_cons_zero, List.set_cons_succ]
      refine wpAnyH_take (i := 9) (oi := ⟨some 79, _, _, _, _, _⟩) (v := _) rfl (by kernel_rfl) (by kernel_rfl) (by kernel_rfl) (fun _ _ _ h => h) (Or.inl ⟨by kernel_rfl, by intro w hSw; (try dsimp only at hSw); go_simp; try with_reducible rfl⟩) (by assumption) ?_
      simp only [Act.put, List.setIfInBounds_toArray, List.set_cons_zero, List.set_cons_succ]
      refine wpAnyH_take (i := 10) (oi := ⟨some 80, _, _, _, _, _⟩) (v := _) rfl (by kernel_rfl) (by kernel_rfl) (by kernel_rfl) (fun _ _ _ h => h) (Or.inl ⟨by kernel_rfl, by intro w hSw; (try dsimp only at hSw); go_simp; try with_reducible rfl⟩) (by assumption) ?_
      simp only [Act.put, List.setIfInBounds_toArray, List.set_cons_zero, List.set_cons_succ]
      refine wpAnyH_take (i := 11) (oi := ⟨some 81, _, _, _, _, _⟩) (v := _) rfl (by kernel_rfl) (by kernel_rfl) (by kernel_rfl) (fun _ _ _ h => h) (Or.inl ⟨by kernel_rfl, by intro w hSw; (try dsimp only at hSw); go_simp; try with_reducible rfl⟩) (by assumption) ?_
      simp only [Act.put, List.setIfInBounds_toArray, List.set_cons_zero, List.set_cons_succ]
      refine wpAnyH_take (i := 12) (oi := ⟨some 82, _, _, _, _, _⟩) (v := _) rfl (by kernel_rfl) (by kernel_rfl) (by kernel_rfl) (fun _ _ _ h => h) (Or.inl ⟨by kernel_rfl, by intro w hSw; (try dsimp only at hSw); go_simp; try with_reducible rfl⟩) (by assumption) ?_
      simp only [Act.put, List.setIfInBounds_toArray, List.set_cons_zero, List.set_cons_succ]
      refine wpAnyH_take (i := 13) (oi := ⟨some 83, _, _, _, _, _⟩) (v := _) rfl (by kernel_rfl) (by kernel_rfl) (by kernel_rfl) (fun _ _ _ h => h) (Or.inl ⟨by kernel_rfl, by intro w hSw; (try dsimp only at hSw); go_simp; try with_reducible rfl⟩) (by assumption) ?_
      simp only [Act.put, List.setIfInBounds_toArray, List.set_cons_zero, List.set_cons_succ]
      refine wpAnyH_take (i := 14) (oi := ⟨some 84, _, _, _, _, _⟩) (v := _) rfl (by kernel_rfl) (by kernel_rfl) (by kernel_rfl) (fun _ _ _ h => h) (Or.inl ⟨by kernel_rfl, by intro w hSw; (try dsimp only at hSw); go_simp; try with_reducible rfl⟩) (by assumption) ?_
      simp only [Act.put, List.setIfInBounds_toArray, List.set_cons_zero, List.set_cons_succ]
      refine wpAnyH_take (i := 15) (oi := ⟨some 85, _, _, _, _, _⟩) (v := _) rfl (by kernel_rfl) (by kernel_rfl) (by kernel_rfl) (fun _ _ _ h => h) (Or.inl ⟨by kernel_rfl, by intro w hSw; (try dsimp only at hSw); go_simp; try with_reducible rfl⟩) (by assumption) ?_
      simp only [Act.put, List.setIfInBounds_toArray, List.set_cons_zero, List.set_cons_succ]
      refine wpAnyH_take (i := 16) (oi := ⟨some 86, _, _, _, _, _⟩) (v := _) rfl (by kernel_rfl) (by kernel_rfl) (by kernel_rfl) (fun _ _ _ h => h) (Or.inl ⟨by kernel_rfl, by intro w hSw; (try dsimp only at hSw); go_simp; try with_reducible rfl⟩) (by assumption) ?_
      simp only [Act.put, List.setIfInBounds_toArray, List.set_cons_zero, List.set_cons_succ]
      refine wpAnyH_take (i := 17) (oi := ⟨some 2, _, _, _, _, _⟩) (v := _) rfl (by kernel_rfl) (by kernel_rfl) (by kernel_rfl) (fun _ _ _ h => h) (Or.inl ⟨by kernel_rfl, by intro w hSw; (try dsimp only at hSw); go_simp; try with_reducible rfl⟩) (by assumption) ?_
      simp only [Act.put, List.setIfInBounds_toArray, List.set_cons_zero, List.set_cons_succ]
      refine wpAnyH_done (by kernel_rfl) ?_ _
      go_wp2
      go_ret
      exact ⟨rfl, HB8.out.trans (((Qt.one _ 1).below _).mono HB8.out.size)⟩
end Go.Proofs.YtkgepklapglmdaaGreatDoor
