/-
  'laws.FnRecoverBook' returns true at every input and leaves its arguments as they were. No condition.
-/
import Derived.Test.YtfmpcghlchmomaaDoorRows
import Derived.Test.YtfmpcghlchmomaaDoorTie
import Derived.Test.YtfmpcghlchmomaaDoorCards
import Derived.Test.YtfmpcghlchmomaaDoorFrameL
import Derived.SevenTiedAt
import Derived.ProofKit
import Derived.LaidMore
import Derived.Lay
import Derived.Stop.Joined
import Derived.Test.YtfmpcghlchmomaaDoorFrame
import Derived.Test.YtfmpcghlchmomaaDoorLawT4
namespace Go.Proofs.YtfmpcghlchmomaaDoor
open Go.ChangeShapes Go.WideShapes Go.ChangeAt Go.RowKit
open Go.ChangeMaps (open_string shut_string)

theorem fnRecoverBook_own : ownKnob Tryd.prog.godebug = none := by kernel_rfl
theorem fnRecoverBook_laidOut : laidOutB Tryd.prog = true := by kernel_rfl
theorem fnRecoverBook_door (os : Os) (args : Array Value) : laidMetH Tryd.prog Rows.fnRecoverBookRow.laid ((World.laidAll Tryd.prog os Rows.fnRecoverBookRow.laid).forCall (fun _ _ => 0) ⟨#[], args, []⟩).memory := by
  rw [MakeChecks.laidMetH_plain _ _ _ (by kernel_rfl)]; exact laidMet_laidAll _ (by kernel_rfl) (by kernel_rfl)
set_option maxRecDepth 100000 in
theorem fnRecoverBook_lifted (os : Os) (started : os.Started) (H : Type) (enc : TypeId × Value → H) :
    ReturnsInHanded {} Tryd.checked os 3 .any (fun w args => (Rows.fnRecoverBookSpec.pre enc Tryd.prog Tryd.f3 Rows.fnRecoverBookRow.domain false w args ∧ laidMetH Tryd.prog Rows.fnRecoverBookRow.laid w) ∧ sizedMet enc Tryd.prog Tryd.f3 (OpenSpec.ofChange Rows.fnRecoverBookSpec) false w args) (Rows.fnRecoverBookSpec.post enc Tryd.prog Tryd.f3 false true false false) := by
  refine handed_laid (C := Tryd.checked) (X := fun w _ => laidMetH Tryd.prog Rows.fnRecoverBookRow.laid w) (fun _ _ _ hh h => h.of_heap hh) fnRecoverBook_own started (by kernel_rfl) Tryd.func3
    (ChangeSpec.witness_shaped (enc := enc) (C := Tryd.checked) (os := os) (X := fun w _ => laidMetH Tryd.prog Rows.fnRecoverBookRow.laid w) false (World.laidAll Tryd.prog os Rows.fnRecoverBookRow.laid) #[.slice none 0 0] 8 (World.laidAll_os _ _ _) (World.shaped_of_ZipB (by kernel_rfl) (by kernel_rfl)) (by kernel_rfl) (by kernel_rfl) (by kernel_rfl) (fnRecoverBook_door os _)) ?_
  intro W base args ds gs before hval0 hW hshape hL
  have hval : ∀ (j : Nat) t v, Tryd.f3.params[j]? = some t → args[j]? = some v → Value.okWide Tryd.prog W .any base t v := hval0
  have hW' := hW
  obtain ⟨p, q, hA0, hV, rfl, _, _⟩ := hW
  have hA : DataW.TrodAll enc Tryd.prog W 0 (fun _ => true) true Tryd.f3.params.toList args.toList ds p := hA0
  rw [Tryd.params3] at hA hval
  obtain ⟨v0, vs0, d0, ds0, p0, q0, hargs, rfl, rfl, h0, r0⟩ := trodAll_cons hA
  obtain ⟨rfl, rfl, rfl⟩ := trodAll_nil r0
  obtain rfl : args = #[v0] := by cases args; simp_all
  obtain ⟨rfl, rfl⟩ := trodVars_none hV
  obtain ⟨a0, len0, cap0, rfl⟩ := okWide_slice Tryd.underlying22 (hval 0 22 v0 rfl rfl)
  have k0 := h0
  have lt0 : ∀ x ∈ p0, x.block < W.heap.size := by obtain ⟨m, hm⟩ := k0; exact DataW.trod_lt m _ _ _ hm
  obtain ⟨x0, w0⟩ := bytes_of_trod Tryd.underlying22 Tryd.underlying5 (by kernel_rfl) h0
  rw [MakeChecks.laidMetH_plain _ _ _ (by kernel_rfl)] at hL
  have hpow : Pow W.heap.size W := pow_of_laid hL
  clear hA0 hval0
  refine (FnRecoverBook_walk W.heap.size _ x0 W hpow hshape w0).mono fun e W' ⟨he, bel⟩ => ?_
  subst he
  exact ⟨_, rfl, _, _, _, [], _, [], hW', trodAll_mk1 (shut_bool Tryd.underlying4 _), (trodAll_cons_mk (Below.trod fnRecoverBook_laidOut (by kernel_rfl) (of_decide_eq_true (by kernel_rfl)) k0 bel lt0) trodAll_mk0), rfl, bel.frame _, fun h => by cases h⟩
theorem fnRecoverBook_holds : Rows.FnRecoverBookSaid :=
  OpenClaim.holds_of_wide 3 Tryd.f3 rfl rfl rfl rfl rfl rfl rfl ⟨rfl, rfl, rfl, rfl, rfl⟩ rfl rfl rfl rfl rfl (by kernel_rfl) Tryd.func3 (by kernel_rfl)
    (of_decide_eq_true (by kernel_rfl)) (by unfold Func.isWrapper; first | (rw [if_pos (by decide +kernel)]; kernel_rfl) | (rw [if_neg (by decide +kernel)]; exact ⟨rfl, rfl⟩))
    (fun os started H enc _ => fnRecoverBook_lifted os started H enc)
theorem fnRecoverBook_card : Rows.FnRecoverBookCardSaid :=
  Claim7.holds_tied_plain_at .later [] [.data, .data, .data, .data, .pinned] true (true, "095b45d650ea77201815b98dea45bf2112c383faf21347a24a87765aa6e3516f") false
    fnRecoverBook_holds (fun _ h => by cases h) (by kernel_rfl) (fun _ h => by cases h) fnRecoverBook_row_tie rfl ⟨rfl, rfl⟩ (by kernel_rfl) rfl
    (fun f fn hf hfn => by
      obtain rfl : f = 3 := Option.some.inj ((show Tryd.prog.funcNamed "loop.example/paperrolls/laws.FnRecoverBook" = some 3 by kernel_rfl).symm.trans hf) |>.symm
      obtain rfl : fn = Tryd.f3 := (Option.some.inj (Tryd.func3.symm.trans hfn)).symm
      exact ⟨by kernel_rfl, fun j t ht => by
        rw [Tryd.params3] at ht
        have hm : t ∈ ([22] : List TypeId) := by simpa using Array.mem_of_getElem? ht
        have hall : (([22] : List TypeId).all fun u => !Tryd.prog.wantsStandIn u) = true := by kernel_rfl
        exact (show Tryd.prog.wantsStandIn t = false by simpa using List.all_eq_true.1 hall t hm)⟩)
    (by kernel_rfl)
#print axioms fnRecoverBook_card
end Go.Proofs.YtfmpcghlchmomaaDoor

