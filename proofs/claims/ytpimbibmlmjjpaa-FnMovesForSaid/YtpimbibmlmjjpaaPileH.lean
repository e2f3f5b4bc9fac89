/-
  Lemmas and contracts of single functions of this program, used by the proofs of its laws: what each call returns and what becomes of memory. Conditions: the hypotheses of each theorem.
-/
import Derived.Test.YtpimbibmlmjjpaaPileG
import Derived.Test.YtpimbibmlmjjpaaPilePlain2
namespace Go.Proofs.Ytpimbibmlmjjpaa
open Go.RowKit

theorem OwnI.ints_hi {w : World} {base e : Nat} {v : Value} {xs : List Int} (h : OwnI w base e v xs) {hi : Nat} (hh : w.heap.size ≤ hi) : Ints w base hi v xs := h.ints.wide (Nat.le_refl _) hh
theorem row_le_tot {p : List (List Int)} {r : Nat} (h : r < p.length) : (gr p r).length ≤ tot p := by have := tot_take h; omega
theorem Only.below' {lo hi : Nat} {a b c : World} (h : Below lo a b) (k : Only lo hi b c) : Below lo a c := h.trans k.below

set_option maxHeartbeats 800000 in
theorem without_any (lo hi : Nat) (v : Value) (p : List (List Int)) (n : Int) (w : World) (h : IRows w lo hi v p) (hhi : hi ≤ w.heap.size) (ht : tot p ≤ 1048576) (hpl : p.length ≤ 1048576) (hF : 0 ≤ fndR p n) :
    Calls Try.prog 54 #[v, .int .i64 n] w fun e w' => ∃ v' s, e = .returned v' ∧ OwnR w' w.heap.size s 26 3 v' (withoutL p n) ∧ Below w.heap.size w w' ∧ s ≤ w'.heap.size := by
  obtain ⟨A, c, rfl, hc, hm⟩ := h.form
  obtain ⟨row, at_, hR, hC, hrow, hati, hcel⟩ := fnd_spec hF
  have hat6 : at_ ≤ 1048576 := by have := row_le_tot hrow; omega
  have hWd : withoutL p n = (coneL p row at_).foldl (zap p) p := by unfold withoutL; rw [hR, hC]; rfl
  have HW := Lib.hid hWd
  have hla := coneL_len (p := p) (at_ := at_) (show row ≤ p.length by omega)
  have Hmem := Lib.hid (fun (k : Nat) (hk : k < (coneL p row at_).length) => show ∃ r i : Nat, fndR p (gi (coneL p row at_) k) = r ∧ fndC p (gi (coneL p row at_) k) = i ∧ r < p.length ∧ i < (gr p r).length from by
    have hin : gi (coneL p row at_) k ∈ coneL p row at_ := by rw [gi_eq hk]; exact List.getElem_mem hk
    obtain ⟨a, b, _, h2, _, _, h5, h6, _⟩ := mem_coneL.1 hin
    have h7 := fnd_some h2 h5
    rw [h6] at h7
    obtain ⟨r, i, e1, e2, e3, e4, _⟩ := fnd_spec h7
    exact ⟨r, i, e1, e2, e3, e4⟩)
  clear hcel hF hWd
  obtain ⟨L, hL⟩ : ∃ L, L = coneL p row at_ := ⟨_, rfl⟩
  rw [← hL] at hla
  have HL := Lib.hid hL
  clear hL
  go_enter Try.func54, Try.ntmps54
  go_wp2_with (first | (go_at_call 64; refine (copyRows_any _ _ _ _ _ h hhi ht hpl).mono ?_; rintro e w1 ⟨v1, rfl, ho1, hb1⟩; obtain ⟨A1, c1, rfl, hc1, hm1⟩ := ho1.form; have hbs1 := hb1.size) | (go_at_call 48; refine (find_any _ _ _ _ _ _ (h.below hb1 hhi)).mono ?_; rw [hR, hC]; rintro e w' ⟨rfl, rfl⟩) | (go_at_call 49; refine (cone_any _ _ _ _ _ _ _ (h.below hb1 hhi) (by omega) ht (by omega) hat6 hpl).mono ?_; rw [← HL.out]; rintro e w2 ⟨v2, rfl, ho2, hb2⟩; obtain ⟨A2, c2, rfl, hc2, hm2⟩ := ho2.form; have hbs2 := hb2.size))
  clear hR hC
  have hi2 := ho2.ints
  have ho1' := ho1.kept (.of_below hb2 (Nat.le_refl _))
  go_loopw [9, 10, 11] (fun i _ _ wr => ∃ k : Nat, k ≤ L.length ∧ i = .int .i64 k ∧ OwnR wr w.heap.size w1.heap.size 26 3 (.slice A1 p.length c1) ((L.take k).foldl (zap p) p) ∧ Only w.heap.size w1.heap.size w2 wr) (fun i _ _ _ => L.length - (intOf i).toNat)
  case atStart => exact ⟨0, by omega, rfl, ho1', Only.refl _ _ _⟩
  case round =>
    obtain ⟨k, hk, rfl, hown, hon⟩ := hrel
    have hb12 := hb1.trans (hb2.mono hbs1)
    by_cases hlt : k < L.length
    · obtain ⟨b, o, rfl, hbl, hbh, hcell, h64⟩ := (hi2.kept (hon.kept (.inr (Nat.le_refl _)))).cell hlt
      have Hk := Hmem.out k (by rw [← HL.out]; exact hlt)
      rw [← HL.out] at Hk
      obtain ⟨r, i, e1, e2, hr, hi'⟩ := Hk
      have hs := zap_shape p (L.take k) p (SameShape.refl p)
      obtain ⟨g, gi', ci, rfl, hgl, hgh, hc1', hci, hmi, hgil, hgih, _, hc2', hf2, hst⟩ := hown.at_ (r := r) (i := i) (by decide) (by rw [hs.1]; exact hr) (by rw [hs.2]; exact hi')
      have Hst := Lib.hid (hst 0 ⟨by omega, by omega⟩)
      have Hs := Lib.hid hs
      rw [hs.2] at hc1' hci
      clear hst hs
      have hip := h.below (hb12.trans (hon.below)) hhi
      go_wp2_with (go_at_call 48; refine (find_any _ _ _ _ _ _ hip).mono ?_; rw [e1, e2]; rintro e w' ⟨rfl, rfl⟩)
      go_roundw
      case rel =>
        refine ⟨k + 1, by omega, by go_num, ?_, hon.setCell hgil hgih _⟩
        rw [take_gi hlt, List.foldl_append]
        show OwnR _ _ _ _ _ _ (zap p _ (gi L k))
        rw [zap, e1, e2]
        exact Hst.out
      case measure => simp [intOf]; omega
    · have He := Lib.hid (show k = L.length by omega)
      go_wp2
      go_ret
      refine ⟨_, _, rfl, ?_, hb12.trans hon.below, by rw [hon.size]; omega⟩
      rw [HW.out, ← HL.out]
      simpa [He.out] using hown
end Go.Proofs.Ytpimbibmlmjjpaa
