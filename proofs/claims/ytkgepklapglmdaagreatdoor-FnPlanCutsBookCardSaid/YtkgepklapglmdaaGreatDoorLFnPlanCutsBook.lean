/-
  'laws.FnPlanCutsBook' returns true at every input and leaves its arguments as they were. No condition.
-/
import Derived.Test.YtkgepklapglmdaaGreatDoorRows
import Derived.Test.YtkgepklapglmdaaGreatDoorTie
import Derived.Test.YtkgepklapglmdaaGreatDoorCards
import Derived.Test.YtkgepklapglmdaaGreatDoorFrameL
import Derived.SevenTiedAt
import Derived.ProofKit
import Derived.LaidMore
import Derived.Lay
import Derived.Stop.Joined
import Derived.Test.YtkgepklapglmdaaGreatDoorFrame
import Derived.Test.YtkgepklapglmdaaGreatDoorLwE
namespace Go.Proofs.YtkgepklapglmdaaGreatDoor
open Go.ChangeShapes Go.WideShapes Go.ChangeAt Go.RowKit
open Go.ChangeMaps (open_string shut_string)

theorem fnPlanCutsBook_own : ownKnob Tryz.prog.godebug = none := by kernel_rfl
theorem fnPlanCutsBook_laidOut : laidOutB Tryz.prog = true := by kernel_rfl
theorem fnPlanCutsBook_door (os : Os) (args : Array Value) : laidMetH Tryz.prog Rows.fnPlanCutsBookRow.laid ((World.laidAll Tryz.prog os Rows.fnPlanCutsBookRow.laid).forCall (fun _ _ => 0) ⟨#[], args, []⟩).memory := by
  rw [MakeChecks.laidMetH_plain _ _ _ (by kernel_rfl)]; exact laidMet_laidAll _ (by kernel_rfl) (by kernel_rfl)
set_option maxRecDepth 100000 in
theorem fnPlanCutsBook_lifted (os : Os) (started : os.Started) (H : Type) (enc : TypeId × Value → H) :
    ReturnsInHanded {} Tryz.checked os 3 .any (fun w args => (Rows.fnPlanCutsBookSpec.pre enc Tryz.prog Tryz.f3 Rows.fnPlanCutsBookRow.domain false w args ∧ laidMetH Tryz.prog Rows.fnPlanCutsBookRow.laid w) ∧ sizedMet enc Tryz.prog Tryz.f3 (OpenSpec.ofChange Rows.fnPlanCutsBookSpec) false w args) (Rows.fnPlanCutsBookSpec.post enc Tryz.prog Tryz.f3 false true false false) := by
  refine handed_laid (C := Tryz.checked) (X := fun w _ => laidMetH Tryz.prog Rows.fnPlanCutsBookRow.laid w) (fun _ _ _ hh h => h.of_heap hh) fnPlanCutsBook_own started (by kernel_rfl) Tryz.func3
    (ChangeSpec.witness_shaped (enc := enc) (C := Tryz.checked) (os := os) (X := fun w _ => laidMetH Tryz.prog Rows.fnPlanCutsBookRow.laid w) false (World.laidAll Tryz.prog os Rows.fnPlanCutsBookRow.laid) #[.slice none 0 0] 8 (World.laidAll_os _ _ _) (World.shaped_of_ZipB (by kernel_rfl) (by kernel_rfl)) (by kernel_rfl) (by kernel_rfl) (by kernel_rfl) (fnPlanCutsBook_door os _)) ?_
  intro W base args ds gs before hval0 hW hshape hL
  have hval : ∀ (j : Nat) t v, Tryz.f3.params[j]? = some t → args[j]? = some v → Value.okWide Tryz.prog W .any base t v := hval0
  have hW' := hW
  obtain ⟨p, q, hA0, hV, rfl, _, _⟩ := hW
  have hA : DataW.TrodAll enc Tryz.prog W 0 (fun _ => true) true Tryz.f3.params.toList args.toList ds p := hA0
  rw [Tryz.params3] at hA hval
  obtain ⟨v0, vs0, d0, ds0, p0, q0, hargs, rfl, rfl, h0, r0⟩ := trodAll_cons hA
  obtain ⟨rfl, rfl, rfl⟩ := trodAll_nil r0
  obtain rfl : args = #[v0] := by cases args; simp_all
  obtain ⟨rfl, rfl⟩ := trodVars_none hV
  obtain ⟨a0, len0, cap0, rfl⟩ := okWide_slice Tryz.underlying22 (hval 0 22 v0 rfl rfl)
  have k0 := h0
  have lt0 : ∀ x ∈ p0, x.block < W.heap.size := by obtain ⟨m, hm⟩ := k0; exact DataW.trod_lt m _ _ _ hm
  obtain ⟨x0, w0⟩ := bytes_of_trod Tryz.underlying22 Tryz.underlying5 (by kernel_rfl) h0
  rw [MakeChecks.laidMetH_plain _ _ _ (by kernel_rfl)] at hL
  have hpow : Pow W.heap.size W := pow_of_laid hL
  clear hA0 hval0
  refine (FnPlanCutsBook_walk W.heap.size _ x0 W hpow hshape w0).mono fun e W' ⟨he, bel⟩ => ?_
  subst he
  exact ⟨_, rfl, _, _, _, [], _, [], hW', trodAll_mk1 (shut_bool Tryz.underlying4 _), (trodAll_cons_mk (Below.trod fnPlanCutsBook_laidOut (by kernel_rfl) (of_decide_eq_true (by kernel_rfl)) k0 bel lt0) trodAll_mk0), rfl, bel.frame _, fun h => by cases h⟩
theorem fnPlanCutsBook_holds : Rows.FnPlanCutsBookSaid :=
  OpenClaim.holds_of_wide 3 Tryz.f3 rfl rfl rfl rfl rfl rfl rfl ⟨rfl, rfl, rfl, rfl, rfl⟩ rfl rfl rfl rfl rfl (by kernel_rfl) Tryz.func3 (by kernel_rfl)
    (of_decide_eq_true (by kernel_rfl)) (by unfold Func.isWrapper; first | (rw [if_pos (by decide +kernel)]; kernel_rfl) | (rw [if_neg (by decide +kernel)]; exact ⟨rfl, rfl⟩))
    (fun os started H enc _ => fnPlanCutsBook_lifted os started H enc)
theorem fnPlanCutsBook_card : Rows.FnPlanCutsBookCardSaid :=
  Claim7.holds_tied_plain_at .later [] [.data, .data, .data, .data, .pinned] true (true, "5cff22456f4b4f030cc9a635979700ed0049ea279b3673333d45512e16b22871") false
    fnPlanCutsBook_holds (fun _ h => by cases h) (by kernel_rfl) (fun _ h => by cases h) fnPlanCutsBook_row_tie rfl ⟨rfl, rfl⟩ (by kernel_rfl) rfl
    (fun f fn hf hfn => by
      obtain rfl : f = 3 := Option.some.inj ((show Tryz.prog.funcNamed "loop.example/paperrolls/laws.FnPlanCutsBook" = some 3 by kernel_rfl).symm.trans hf) |>.symm
      obtain rfl : fn = Tryz.f3 := (Option.some.inj (Tryz.func3.symm.trans hfn)).symm
      exact ⟨by kernel_rfl, fun j t ht => by
        rw [Tryz.params3] at ht
        have hm : t ∈ ([22] : List TypeId) := by simpa using Array.mem_of_getElem? ht
        have hall : (([22] : List TypeId).all fun u => !Tryz.prog.wantsStandIn u) = true := by kernel_rfl
        exact (show Tryz.prog.wantsStandIn t = false by simpa using List.all_eq_true.1 hall t hm)⟩)
    (by kernel_rfl)
#print axioms fnPlanCutsBook_card
end Go.Proofs.YtkgepklapglmdaaGreatDoor

