/-
  'laws.FnExactRunDesk' returns true at every input and leaves its arguments as they were. No condition.
-/
import Derived.Test.YtkgepklapglmdaaGreatDoorRows
import Derived.Test.YtkgepklapglmdaaGreatDoorTie
import Derived.Test.YtkgepklapglmdaaGreatDoorCards
import Derived.Test.YtkgepklapglmdaaGreatDoorFrameL
import Derived.SevenTiedAt
import Derived.ProofKit
import Derived.LaidMore
import Derived.Lay
import Derived.Stop.Joined
import Derived.Test.YtkgepklapglmdaaGreatDoorFrameS
import Derived.Test.YtkgepklapglmdaaGreatDoorXRunDesk
namespace Go.Proofs.YtkgepklapglmdaaGreatDoor
open Go.ChangeShapes Go.WideShapes Go.ChangeAt Go.RowKit
open Go.ChangeMaps (open_string shut_string)

theorem fnExactRunDesk_own : ownKnob Tryz.prog.godebug = none := by kernel_rfl
theorem fnExactRunDesk_laidOut : laidOutB Tryz.prog = true := by kernel_rfl
theorem fnExactRunDesk_door (os : Os) (args : Array Value) : laidMetH Tryz.prog Rows.fnExactRunDeskRow.laid ((World.laidAll Tryz.prog os Rows.fnExactRunDeskRow.laid).forCall (fun _ _ => 0) ⟨#[], args, []⟩).memory := by
  rw [MakeChecks.laidMetH_plain _ _ _ (by kernel_rfl)]; exact laidMet_laidAll _ (by kernel_rfl) (by kernel_rfl)
set_option maxRecDepth 100000 in
theorem fnExactRunDesk_lifted (os : Os) (started : os.Started) (H : Type) (enc : TypeId × Value → H) :
    ReturnsInHanded {} Tryz.checked os 4 .any (fun w args => (Rows.fnExactRunDeskSpec.pre enc Tryz.prog Tryz.f4 Rows.fnExactRunDeskRow.domain false w args ∧ laidMetH Tryz.prog Rows.fnExactRunDeskRow.laid w) ∧ sizedMet enc Tryz.prog Tryz.f4 (OpenSpec.ofChange Rows.fnExactRunDeskSpec) false w args) (Rows.fnExactRunDeskSpec.post enc Tryz.prog Tryz.f4 false true false false) := by
  refine handed_laid (C := Tryz.checked) (X := fun w _ => laidMetH Tryz.prog Rows.fnExactRunDeskRow.laid w) (fun _ _ _ hh h => h.of_heap hh) fnExactRunDesk_own started (by kernel_rfl) Tryz.func4
    (ChangeSpec.witness_shaped (enc := enc) (C := Tryz.checked) (os := os) (X := fun w _ => laidMetH Tryz.prog Rows.fnExactRunDeskRow.laid w) false (World.laidAll Tryz.prog os Rows.fnExactRunDeskRow.laid) #[.string ByteArray.empty, .slice none 0 0] 8 (World.laidAll_os _ _ _) (World.shaped_of_ZipB (by kernel_rfl) (by kernel_rfl)) (by kernel_rfl) (by kernel_rfl) (by kernel_rfl) (fnExactRunDesk_door os _)) ?_
  intro W base args ds gs before hval0 hW hshape hL
  have hval : ∀ (j : Nat) t v, Tryz.f4.params[j]? = some t → args[j]? = some v → Value.okWide Tryz.prog W .any base t v := hval0
  have hW' := hW
  obtain ⟨p, q, hA0, hV, rfl, _, _⟩ := hW
  have hA : DataW.TrodAll enc Tryz.prog W 0 (fun _ => true) true Tryz.f4.params.toList args.toList ds p := hA0
  rw [Tryz.params4] at hA hval
  obtain ⟨v0, vs0, d0, ds0, p0, q0, hargs, rfl, rfl, h0, r0⟩ := trodAll_cons hA
  obtain ⟨v1, vs1, d1, ds1, p1, q1, rfl, rfl, rfl, h1, r1⟩ := trodAll_cons r0
  obtain ⟨rfl, rfl, rfl⟩ := trodAll_nil r1
  obtain rfl : args = #[v0, v1] := by cases args; simp_all
  obtain ⟨rfl, rfl⟩ := trodVars_none hV
  obtain ⟨x0, rfl, rfl, rfl, w0⟩ := open_string Tryz.underlying9 (hval 0 9 v0 rfl rfl) h0
  obtain ⟨a1, len1, cap1, rfl⟩ := okWide_slice Tryz.underlying43 (hval 1 43 v1 rfl rfl)
  have k1 := h1
  have lt1 : ∀ x ∈ p1, x.block < W.heap.size := by obtain ⟨m, hm⟩ := k1; exact DataW.trod_lt m _ _ _ hm
  obtain ⟨x1, w1, y1⟩ := strs_of_trod Tryz.underlying43 Tryz.underlying9 (by kernel_rfl) h1
  rw [MakeChecks.laidMetH_plain _ _ _ (by kernel_rfl)] at hL
  have hpow : Pow W.heap.size W := pow_of_laid hL
  clear hA0 hval0
  refine (FnExactRunDesk_walk W.heap.size x0 _ x1 W hpow hshape w0 w1 y1).mono fun e W' ⟨he, bel⟩ => ?_
  subst he
  exact ⟨_, rfl, _, _, _, [], _, [], hW', trodAll_mk1 (shut_bool Tryz.underlying4 _), (trodAll_cons_mk (shut_string Tryz.underlying9 w0) (trodAll_cons_mk (Below.trod fnExactRunDesk_laidOut (by kernel_rfl) (of_decide_eq_true (by kernel_rfl)) k1 bel lt1) trodAll_mk0)), rfl, bel.frame _, fun h => by cases h⟩
theorem fnExactRunDesk_holds : Rows.FnExactRunDeskSaid :=
  OpenClaim.holds_of_wide 4 Tryz.f4 rfl rfl rfl rfl rfl rfl rfl ⟨rfl, rfl, rfl, rfl, rfl⟩ rfl rfl rfl rfl rfl (by kernel_rfl) Tryz.func4 (by kernel_rfl)
    (of_decide_eq_true (by kernel_rfl)) (by unfold Func.isWrapper; first | (rw [if_pos (by decide +kernel)]; kernel_rfl) | (rw [if_neg (by decide +kernel)]; exact ⟨rfl, rfl⟩))
    (fun os started H enc _ => fnExactRunDesk_lifted os started H enc)
theorem fnExactRunDesk_card : Rows.FnExactRunDeskCardSaid :=
  Claim7.holds_tied_plain_at .later [] [.data, .data, .data, .data, .pinned] true (true, "5cff22456f4b4f030cc9a635979700ed0049ea279b3673333d45512e16b22871") false
    fnExactRunDesk_holds (fun _ h => by cases h) (by kernel_rfl) (fun _ h => by cases h) fnExactRunDesk_row_tie rfl ⟨rfl, rfl⟩ (by kernel_rfl) rfl
    (fun f fn hf hfn => by
      obtain rfl : f = 4 := Option.some.inj ((show Tryz.prog.funcNamed "loop.example/paperrolls/laws.FnExactRunDesk" = some 4 by kernel_rfl).symm.trans hf) |>.symm
      obtain rfl : fn = Tryz.f4 := (Option.some.inj (Tryz.func4.symm.trans hfn)).symm
      exact ⟨by kernel_rfl, fun j t ht => by
        rw [Tryz.params4] at ht
        have hm : t ∈ ([9, 43] : List TypeId) := by simpa using Array.mem_of_getElem? ht
        have hall : (([9, 43] : List TypeId).all fun u => !Tryz.prog.wantsStandIn u) = true := by kernel_rfl
        exact (show Tryz.prog.wantsStandIn t = false by simpa using List.all_eq_true.1 hall t hm)⟩)
    (by kernel_rfl)
#print axioms fnExactRunDesk_card
end Go.Proofs.YtkgepklapglmdaaGreatDoor

