/-
  Lemmas and contracts of single functions of this program, used by the proofs of its laws: what each call returns and what becomes of memory. Conditions: the hypotheses of each theorem.
-/
import Derived.Test.YteckjiaaikdghaaLeafR
namespace Go.Proofs.Yteckjiaaikdghaa
open Go.RowKit
attribute [local go_sem ↓] Go.wp_at_zero Go.wp_at_succ

/-- numbers in an order -/
def pickO (xs ord : List Int) : List Int := ord.map fun x => gi xs x.toNat
theorem pickO_snoc {xs ord : List Int} {k : Nat} (h : k < ord.length) : pickO xs (ord.take (k + 1)) = pickO xs (ord.take k) ++ [gi xs (gi ord k).toNat] := by
  unfold pickO; rw [take_gi h, List.map_append]; rfl
set_option maxHeartbeats 1000000 in
theorem picked_any (lo hi l2 h2 : Nat) (v u : Value) (xs ord : List Int) (w : World) (h : Ints w lo hi v xs) (hhi : hi ≤ w.heap.size) (hy : Ints w l2 h2 u ord) (hh2 : h2 ≤ w.heap.size) (hl : ord.length ≤ 1000) (ho : ∀ x ∈ ord, ∃ i : Nat, x = (i : Int) ∧ i < xs.length) :
    Calls Try.prog 91 #[v, u] w fun e w' => ∃ v', e = .returned v' ∧ OwnI w' w.heap.size 3 v' (pickO xs ord) ∧ Below w.heap.size w w' := by
  obtain ⟨A, c, rfl, hc, hm⟩ := h.form
  obtain ⟨B, d, rfl, hd, hm2⟩ := hy.form
  have HO := Lib.hid ho
  have H0 := Lib.hid (OwnI.empty w w.heap.size 3 (Nat.le_refl _))
  have HB0 := Lib.hid (show Below w.heap.size w (w.alloc (.cells #[] 3)) from (Below.refl _ _).alloc (Nat.le_refl _) _)
  clear ho
  go_enter Try.func91, Try.ntmps91
  go_wp2
  go_loopw [5, 6] (fun pc i wr => ∃ (k : Nat) (A3 : Option Addr) (c3 : Nat), k ≤ ord.length ∧ i = .int .i64 k ∧ pc = .slice A3 k c3 ∧ OwnI wr w.heap.size 3 (.slice A3 k c3) (pickO xs (ord.take k)) ∧ Below w.heap.size w wr) (fun _ i _ => ord.length - (intOf i).toNat)
  case atStart => exact ⟨0, _, 0, Nat.zero_le _, rfl, rfl, H0.out, HB0.out⟩
  case round =>
    obtain ⟨k, A3, c3, hk, rfl, rfl, hown, hb⟩ := hrel
    have hzr := hb.size
    by_cases hlt : k < ord.length
    · obtain ⟨b2, o2, rfl, _, _, ocell, _⟩ := (hy.below hb hh2).cell hlt
      obtain ⟨i, hi9, hix⟩ := HO.out _ (show gi ord k ∈ ord by rw [gi_eq hlt]; exact List.getElem_mem hlt)
      have HN := Lib.hid (pickO_snoc (xs := xs) hlt)
      rw [hi9] at ocell HN
      rw [Int.toNat_natCast] at HN
      obtain ⟨b1, o1, rfl, _, _, xcell, x64⟩ := (h.below hb hhi).cell hix
      have hi0 : (0 : Int) ≤ (i : Int) := by omega
      have hi1 : (i : Int) < (xs.length : Int) := by omega
      have hk0 : (0 : Int) ≤ (k : Int) := by omega
      have hk1 : (k : Int) < (ord.length : Int) := by omega
      obtain ⟨x, hx⟩ : ∃ x, x = gi xs i := ⟨_, rfl⟩
      rw [← hx] at xcell x64 HN
      have Hown := Lib.hid hown
      have Hb := Lib.hid hb
      have hpl : (pickO xs (ord.take k)).length = k := by unfold pickO; rw [List.length_map, List.length_take]; omega
      have HPL := Lib.hid hpl
      clear hx hown hb hpl hi9
      go_wp2_with (at_builtin; refine wpList_appendI SlI _ rfl (.tmp 14) (.tmp 22) rfl x w.heap.size _ (pickO xs (ord.take k)) rfl rfl Hown.out x64 (by rw [HPL.out]; omega) hzr ?_; intro v' w' ho' hg'; have hfo := ho'.form; obtain ⟨A5, c5, hv5, _⟩ := hfo; rw [List.length_append, HPL.out, List.length_singleton] at hv5; subst hv5; have Ho' := Lib.hid ho'; have Hb' := Lib.hid (Hb.out.trans hg'.below); clear ho' hg')
      go_roundw
      case rel => exact ⟨k + 1, A5, c5, hlt, by go_num, rfl, by rw [HN.out]; exact Ho'.out, Hb'.out⟩
      case measure => simp [intOf]; omega
    · have hke : k = ord.length := by omega
      have Hown := Lib.hid hown
      have Hb := Lib.hid hb
      clear hown hb
      go_wp2
      go_ret
      refine ⟨_, rfl, ?_, Hb.out⟩
      have := Hown.out
      rw [hke, List.take_length] at this
      rw [hke]
      exact this
end Go.Proofs.Yteckjiaaikdghaa
