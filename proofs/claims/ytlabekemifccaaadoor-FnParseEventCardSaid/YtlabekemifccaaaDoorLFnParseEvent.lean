/-
  'laws.FnParseEvent' returns true at every input and leaves its arguments as they were. No condition.
-/
import Derived.Test.YtlabekemifccaaaDoorRows
import Derived.Test.YtlabekemifccaaaDoorTie
import Derived.Test.YtlabekemifccaaaDoorCards
import Derived.Test.YtlabekemifccaaaDoorFrameL
import Derived.SevenTiedAt
import Derived.ProofKit
import Derived.LaidMore
import Derived.Lay
import Derived.Stop.Joined
import Derived.Test.YtlabekemifccaaaDoorFrame
import Derived.Test.YtlabekemifccaaaDoorLawT3
namespace Go.Proofs.YtlabekemifccaaaDoor
open Go.ChangeShapes Go.WideShapes Go.ChangeAt Go.RowKit
open Go.ChangeMaps (open_string shut_string)

theorem fnParseEvent_own : ownKnob Tryd.prog.godebug = none := by kernel_rfl
theorem fnParseEvent_laidOut : laidOutB Tryd.prog = true := by kernel_rfl
theorem fnParseEvent_door (os : Os) (args : Array Value) : laidMetH Tryd.prog Rows.fnParseEventRow.laid ((World.laidAll Tryd.prog os Rows.fnParseEventRow.laid).forCall (fun _ _ => 0) ⟨#[], args, []⟩).memory := by
  rw [MakeChecks.laidMetH_plain _ _ _ (by kernel_rfl)]; exact laidMet_laidAll _ (by kernel_rfl) (by kernel_rfl)
set_option maxRecDepth 100000 in
theorem fnParseEvent_lifted (os : Os) (started : os.Started) (H : Type) (enc : TypeId × Value → H) :
    ReturnsInHanded {} Tryd.checked os 8 .any (fun w args => (Rows.fnParseEventSpec.pre enc Tryd.prog Tryd.f8 Rows.fnParseEventRow.domain false w args ∧ laidMetH Tryd.prog Rows.fnParseEventRow.laid w) ∧ sizedMet enc Tryd.prog Tryd.f8 (OpenSpec.ofChange Rows.fnParseEventSpec) false w args) (Rows.fnParseEventSpec.post enc Tryd.prog Tryd.f8 false true false false) := by
  refine handed_laid (C := Tryd.checked) (X := fun w _ => laidMetH Tryd.prog Rows.fnParseEventRow.laid w) (fun _ _ _ hh h => h.of_heap hh) fnParseEvent_own started (by kernel_rfl) Tryd.func8
    (ChangeSpec.witness_shaped (enc := enc) (C := Tryd.checked) (os := os) (X := fun w _ => laidMetH Tryd.prog Rows.fnParseEventRow.laid w) false (World.laidAll Tryd.prog os Rows.fnParseEventRow.laid) #[.slice none 0 0] 8 (World.laidAll_os _ _ _) (World.shaped_of_ZipB (by kernel_rfl) (by kernel_rfl)) (by kernel_rfl) (by kernel_rfl) (by kernel_rfl) (fnParseEvent_door os _)) ?_
  intro W base args ds gs before hval0 hW hshape hL
  have hval : ∀ (j : Nat) t v, Tryd.f8.params[j]? = some t → args[j]? = some v → Value.okWide Tryd.prog W .any base t v := hval0
  have hW' := hW
  obtain ⟨p, q, hA0, hV, rfl, _, _⟩ := hW
  have hA : DataW.TrodAll enc Tryd.prog W 0 (fun _ => true) true Tryd.f8.params.toList args.toList ds p := hA0
  rw [Tryd.params8] at hA hval
  obtain ⟨v0, vs0, d0, ds0, p0, q0, hargs, rfl, rfl, h0, r0⟩ := trodAll_cons hA
  obtain ⟨rfl, rfl, rfl⟩ := trodAll_nil r0
  obtain rfl : args = #[v0] := by cases args; simp_all
  obtain ⟨rfl, rfl⟩ := trodVars_none hV
  obtain ⟨a0, len0, cap0, rfl⟩ := okWide_slice Tryd.underlying45 (hval 0 45 v0 rfl rfl)
  have k0 := h0
  have lt0 : ∀ x ∈ p0, x.block < W.heap.size := by obtain ⟨m, hm⟩ := k0; exact DataW.trod_lt m _ _ _ hm
  obtain ⟨x0, w0⟩ := bytes_of_trod Tryd.underlying45 Tryd.underlying5 (by kernel_rfl) h0
  rw [MakeChecks.laidMetH_plain _ _ _ (by kernel_rfl)] at hL
  have hpow : Pow W.heap.size W := pow_of_laid hL
  clear hA0 hval0
  refine (FnParseEvent_walk W.heap.size _ x0 W hpow hshape w0).mono fun e W' ⟨he, bel⟩ => ?_
  subst he
  exact ⟨_, rfl, _, _, _, [], _, [], hW', trodAll_mk1 (shut_bool Tryd.underlying4 _), (trodAll_cons_mk (Below.trod fnParseEvent_laidOut (by kernel_rfl) (of_decide_eq_true (by kernel_rfl)) k0 bel lt0) trodAll_mk0), rfl, bel.frame _, fun h => by cases h⟩
theorem fnParseEvent_holds : Rows.FnParseEventSaid :=
  OpenClaim.holds_of_wide 8 Tryd.f8 rfl rfl rfl rfl rfl rfl rfl ⟨rfl, rfl, rfl, rfl, rfl⟩ rfl rfl rfl rfl rfl (by kernel_rfl) Tryd.func8 (by kernel_rfl)
    (of_decide_eq_true (by kernel_rfl)) (by unfold Func.isWrapper; first | (rw [if_pos (by decide +kernel)]; kernel_rfl) | (rw [if_neg (by decide +kernel)]; exact ⟨rfl, rfl⟩))
    (fun os started H enc _ => fnParseEvent_lifted os started H enc)
theorem fnParseEvent_card : Rows.FnParseEventCardSaid :=
  Claim7.holds_tied_plain_at .later [] [.data, .data, .data, .data, .pinned] true (true, "25db02159199c653d5e606e4ff5faa897f7fcc33d237d5081a9d8c1a2c83c9ed") false
    fnParseEvent_holds (fun _ h => by cases h) (by kernel_rfl) (fun _ h => by cases h) fnParseEvent_row_tie rfl ⟨rfl, rfl⟩ (by kernel_rfl) rfl
    (fun f fn hf hfn => by
      obtain rfl : f = 8 := Option.some.inj ((show Tryd.prog.funcNamed "loop.example/paperrolls/laws.FnParseEvent" = some 8 by kernel_rfl).symm.trans hf) |>.symm
      obtain rfl : fn = Tryd.f8 := (Option.some.inj (Tryd.func8.symm.trans hfn)).symm
      exact ⟨by kernel_rfl, fun j t ht => by
        rw [Tryd.params8] at ht
        have hm : t ∈ ([45] : List TypeId) := by simpa using Array.mem_of_getElem? ht
        have hall : (([45] : List TypeId).all fun u => !Tryd.prog.wantsStandIn u) = true := by kernel_rfl
        exact (show Tryd.prog.wantsStandIn t = false by simpa using List.all_eq_true.1 hall t hm)⟩)
    (by kernel_rfl)
#print axioms fnParseEvent_card
end Go.Proofs.YtlabekemifccaaaDoor

