/-
  No cell of these rows narrows 'for every input' (looked for: loops, veiled, ifaces, maps, wideKeys, modest, calm, conditions, laid).
  DERIVED. THE GIVEN ROWS OF THIS SEAT. 9 by the template 'for every input the law returns true; each argument reads behind the call as it read before'; 0 by the template 'total and deterministic' (their statements: YtcebdokdekgeaaaTotals.lean).
  GIVEN WITH THE SEED: the statements are not yours to turn. If you find one false, say at which input.
  Laid BY PROGRAM, IN A SANDBOX (cutbox-rows.mjs): the forced cells as the released guide's own fill.sh prints them over the translation 6697a86cb59169f7… (all of the seat's roots in one cut). By AI agents, Wed Nov 11 2026. No macro, syntax, notation, axiom, sorry.
-/
import Derived.Test.YtcebdokdekgeaaaChecked
import GoSem.Claim
import GoSem.ClaimJoined
import GoSem.ClaimMapViews
import Derived.JoinedTies
import Derived.KernelRfl
namespace Go.Proofs.Ytcebdokdekgeaaa
/- THE CELL 'sum', in the pinned program and in every row, IS THE sha256 OF THE DUMP (.gsa) THAT YtcebdokdekgeaaaProg.lean LOADS. Nothing in Lean hashes anything: it is a label: what it is worth is what the hold of that sum in a sandbox is worth. -/
noncomputable def Try.pinned : Pinned := { name := "ytcebdokdekgeaaa", sum := "6697a86cb59169f7401bbb818081a7cc26ce6d54fe6f1c2fdcf5882315488ee8", checked := Try.checked }
namespace Rows
def none {H : Type} : Left H := { results := [], args := [] }

/-- 'laws.FnValidMill': WHATEVER THE INPUT: true; the input reads as it did. -/
def fnValidMillSpec : ChangeSpec := { name := "fnValidMill", fn := fun _ => fun
  | [d] => { results := [.lit (.bool true)], args := [d] }
  | _ => none }
def fnValidMillRow : OpenClaim := { program := "ytcebdokdekgeaaa", sum := "6697a86cb59169f7401bbb818081a7cc26ce6d54fe6f1c2fdcf5882315488ee8", func := "loop.example/paperrolls/laws.FnValidMill", spec := "fnValidMill", apart := false }
def FnValidMillSaid : Prop := fnValidMillRow.holds Try.pinned (OpenSpec.ofChange fnValidMillSpec)

/-- ITS FALSE NEIGHBOUR: 'it returns false'. Refute it at one input. -/
def fnValidMillWrong : ChangeSpec := { name := "fnValidMill", fn := fun _ => fun
  | [d] => { results := [.lit (.bool false)], args := [d] }
  | _ => none }
def FnValidMillWrongFalsely : Prop := fnValidMillRow.holds Try.pinned (OpenSpec.ofChange fnValidMillWrong)

/-- 'laws.FnAreaHeld': WHATEVER THE INPUT: true; the input reads as it did. -/
def fnAreaHeldSpec : ChangeSpec := { name := "fnAreaHeld", fn := fun _ => fun
  | [d] => { results := [.lit (.bool true)], args := [d] }
  | _ => none }
def fnAreaHeldRow : OpenClaim := { program := "ytcebdokdekgeaaa", sum := "6697a86cb59169f7401bbb818081a7cc26ce6d54fe6f1c2fdcf5882315488ee8", func := "loop.example/paperrolls/laws.FnAreaHeld", spec := "fnAreaHeld", apart := false }
def FnAreaHeldSaid : Prop := fnAreaHeldRow.holds Try.pinned (OpenSpec.ofChange fnAreaHeldSpec)

/-- ITS FALSE NEIGHBOUR: 'it returns false'. Refute it at one input. -/
def fnAreaHeldWrong : ChangeSpec := { name := "fnAreaHeld", fn := fun _ => fun
  | [d] => { results := [.lit (.bool false)], args := [d] }
  | _ => none }
def FnAreaHeldWrongFalsely : Prop := fnAreaHeldRow.holds Try.pinned (OpenSpec.ofChange fnAreaHeldWrong)

/-- 'laws.FnApplyEvent': WHATEVER THE INPUT: true; the input reads as it did. -/
def fnApplyEventSpec : ChangeSpec := { name := "fnApplyEvent", fn := fun _ => fun
  | [d] => { results := [.lit (.bool true)], args := [d] }
  | _ => none }
def fnApplyEventRow : OpenClaim := { program := "ytcebdokdekgeaaa", sum := "6697a86cb59169f7401bbb818081a7cc26ce6d54fe6f1c2fdcf5882315488ee8", func := "loop.example/paperrolls/laws.FnApplyEvent", spec := "fnApplyEvent", inPlace := ["slices.overlaps[loop.example/paperrolls/impl.Entry]"], unfollowed := true, recurses := true, apart := false }
def FnApplyEventSaid : Prop := fnApplyEventRow.holds Try.pinned (OpenSpec.ofChange fnApplyEventSpec)

/-- ITS FALSE NEIGHBOUR: 'it returns false'. Refute it at one input. -/
def fnApplyEventWrong : ChangeSpec := { name := "fnApplyEvent", fn := fun _ => fun
  | [d] => { results := [.lit (.bool false)], args := [d] }
  | _ => none }
def FnApplyEventWrongFalsely : Prop := fnApplyEventRow.holds Try.pinned (OpenSpec.ofChange fnApplyEventWrong)

/-- 'laws.FnApplyEventUndone': WHATEVER THE INPUT: true; the input reads as it did. -/
def fnApplyEventUndoneSpec : ChangeSpec := { name := "fnApplyEventUndone", fn := fun _ => fun
  | [d] => { results := [.lit (.bool true)], args := [d] }
  | _ => none }
def fnApplyEventUndoneRow : OpenClaim := { program := "ytcebdokdekgeaaa", sum := "6697a86cb59169f7401bbb818081a7cc26ce6d54fe6f1c2fdcf5882315488ee8", func := "loop.example/paperrolls/laws.FnApplyEventUndone", spec := "fnApplyEventUndone", inPlace := ["slices.overlaps[loop.example/paperrolls/impl.Entry]"], unfollowed := true, recurses := true, apart := false }
def FnApplyEventUndoneSaid : Prop := fnApplyEventUndoneRow.holds Try.pinned (OpenSpec.ofChange fnApplyEventUndoneSpec)

/-- ITS FALSE NEIGHBOUR: 'it returns false'. Refute it at one input. -/
def fnApplyEventUndoneWrong : ChangeSpec := { name := "fnApplyEventUndone", fn := fun _ => fun
  | [d] => { results := [.lit (.bool false)], args := [d] }
  | _ => none }
def FnApplyEventUndoneWrongFalsely : Prop := fnApplyEventUndoneRow.holds Try.pinned (OpenSpec.ofChange fnApplyEventUndoneWrong)

/-- 'laws.FnRunBook': WHATEVER THE INPUT: true; the input reads as it did. -/
def fnRunBookSpec : ChangeSpec := { name := "fnRunBook", fn := fun _ => fun
  | [d] => { results := [.lit (.bool true)], args := [d] }
  | _ => none }
def fnRunBookRow : OpenClaim := { program := "ytcebdokdekgeaaa", sum := "6697a86cb59169f7401bbb818081a7cc26ce6d54fe6f1c2fdcf5882315488ee8", func := "loop.example/paperrolls/laws.FnRunBook", spec := "fnRunBook", inPlace := ["slices.overlaps[loop.example/paperrolls/impl.Entry]"], unfollowed := true, recurses := true, apart := false }
def FnRunBookSaid : Prop := fnRunBookRow.holds Try.pinned (OpenSpec.ofChange fnRunBookSpec)

/-- ITS FALSE NEIGHBOUR: 'it returns false'. Refute it at one input. -/
def fnRunBookWrong : ChangeSpec := { name := "fnRunBook", fn := fun _ => fun
  | [d] => { results := [.lit (.bool false)], args := [d] }
  | _ => none }
def FnRunBookWrongFalsely : Prop := fnRunBookRow.holds Try.pinned (OpenSpec.ofChange fnRunBookWrong)

/-- 'laws.FnApplyEventShip': WHATEVER THE INPUT: true; the input reads as it did. -/
def fnApplyEventShipSpec : ChangeSpec := { name := "fnApplyEventShip", fn := fun _ => fun
  | [d] => { results := [.lit (.bool true)], args := [d] }
  | _ => none }
def fnApplyEventShipRow : OpenClaim := { program := "ytcebdokdekgeaaa", sum := "6697a86cb59169f7401bbb818081a7cc26ce6d54fe6f1c2fdcf5882315488ee8", func := "loop.example/paperrolls/laws.FnApplyEventShip", spec := "fnApplyEventShip", inPlace := ["slices.overlaps[loop.example/paperrolls/impl.Entry]"], unfollowed := true, recurses := true, apart := false }
def FnApplyEventShipSaid : Prop := fnApplyEventShipRow.holds Try.pinned (OpenSpec.ofChange fnApplyEventShipSpec)

/-- ITS FALSE NEIGHBOUR: 'it returns false'. Refute it at one input. -/
def fnApplyEventShipWrong : ChangeSpec := { name := "fnApplyEventShip", fn := fun _ => fun
  | [d] => { results := [.lit (.bool false)], args := [d] }
  | _ => none }
def FnApplyEventShipWrongFalsely : Prop := fnApplyEventShipRow.holds Try.pinned (OpenSpec.ofChange fnApplyEventShipWrong)

/-- 'laws.FnRunBookArea': WHATEVER THE INPUT: true; the input reads as it did. -/
def fnRunBookAreaSpec : ChangeSpec := { name := "fnRunBookArea", fn := fun _ => fun
  | [d] => { results := [.lit (.bool true)], args := [d] }
  | _ => none }
def fnRunBookAreaRow : OpenClaim := { program := "ytcebdokdekgeaaa", sum := "6697a86cb59169f7401bbb818081a7cc26ce6d54fe6f1c2fdcf5882315488ee8", func := "loop.example/paperrolls/laws.FnRunBookArea", spec := "fnRunBookArea", inPlace := ["slices.overlaps[loop.example/paperrolls/impl.Entry]"], unfollowed := true, recurses := true, apart := false }
def FnRunBookAreaSaid : Prop := fnRunBookAreaRow.holds Try.pinned (OpenSpec.ofChange fnRunBookAreaSpec)

/-- ITS FALSE NEIGHBOUR: 'it returns false'. Refute it at one input. -/
def fnRunBookAreaWrong : ChangeSpec := { name := "fnRunBookArea", fn := fun _ => fun
  | [d] => { results := [.lit (.bool false)], args := [d] }
  | _ => none }
def FnRunBookAreaWrongFalsely : Prop := fnRunBookAreaRow.holds Try.pinned (OpenSpec.ofChange fnRunBookAreaWrong)

/-- 'laws.FnExactRunBook': WHATEVER THE INPUT: true; the input reads as it did. -/
def fnExactRunBookSpec : ChangeSpec := { name := "fnExactRunBook", fn := fun _ => fun
  | [d] => { results := [.lit (.bool true)], args := [d] }
  | _ => none }
def fnExactRunBookRow : OpenClaim := { program := "ytcebdokdekgeaaa", sum := "6697a86cb59169f7401bbb818081a7cc26ce6d54fe6f1c2fdcf5882315488ee8", func := "loop.example/paperrolls/laws.FnExactRunBook", spec := "fnExactRunBook", inPlace := ["slices.overlaps[loop.example/paperrolls/impl.Entry]"], unfollowed := true, recurses := true, apart := false }
def FnExactRunBookSaid : Prop := fnExactRunBookRow.holds Try.pinned (OpenSpec.ofChange fnExactRunBookSpec)

/-- ITS FALSE NEIGHBOUR: 'it returns false'. Refute it at one input. -/
def fnExactRunBookWrong : ChangeSpec := { name := "fnExactRunBook", fn := fun _ => fun
  | [d] => { results := [.lit (.bool false)], args := [d] }
  | _ => none }
def FnExactRunBookWrongFalsely : Prop := fnExactRunBookRow.holds Try.pinned (OpenSpec.ofChange fnExactRunBookWrong)

/-- 'laws.FnExactApplyEvent': WHATEVER THE INPUT: true; the input reads as it did. -/
def fnExactApplyEventSpec : ChangeSpec := { name := "fnExactApplyEvent", fn := fun _ => fun
  | [d1, d2] => { results := [.lit (.bool true)], args := [d1, d2] }
  | _ => none }
def fnExactApplyEventRow : OpenClaim := { program := "ytcebdokdekgeaaa", sum := "6697a86cb59169f7401bbb818081a7cc26ce6d54fe6f1c2fdcf5882315488ee8", func := "loop.example/paperrolls/laws.FnExactApplyEvent", spec := "fnExactApplyEvent", inPlace := ["slices.overlaps[loop.example/paperrolls/impl.Entry]"], unfollowed := true, recurses := true, apart := false }
def FnExactApplyEventSaid : Prop := fnExactApplyEventRow.holds Try.pinned (OpenSpec.ofChange fnExactApplyEventSpec)

/-- ITS FALSE NEIGHBOUR: 'it returns false'. Refute it at one input. -/
def fnExactApplyEventWrong : ChangeSpec := { name := "fnExactApplyEvent", fn := fun _ => fun
  | [d1, d2] => { results := [.lit (.bool false)], args := [d1, d2] }
  | _ => none }
def FnExactApplyEventWrongFalsely : Prop := fnExactApplyEventRow.holds Try.pinned (OpenSpec.ofChange fnExactApplyEventWrong)

/- THE SECOND FORM. 'bulk': how many values and letters a reading holds, each counted each time it is reached (what is shared counts as often as it is met; a slice's spare places count too). A statement '..UptoSaid' is the law's where the arguments, and the package variables that the reading takes, are together of bulk at most 1048576: NARROWER than '..Said'. Prove '..Said' where nothing that the law and all that it calls make is longer than what came in: it says more and counts as full. Else prove '..UptoSaid'. A law counts once. -/
mutual
def uptoBulk {H : Type} : DataW H → Nat
  | .lit (.string bytes) => bytes.length + 1
  | .lit _ => 1
  | .nil => 1
  | .ptr d => uptoBulk d + 1
  | .slice elems spare => uptoBulkAll elems + uptoBulkAll spare + 1
  | .agg parts => uptoBulkAll parts + 1
  | .iface _ d => uptoBulk d + 1
  | .map entries => uptoBulkEntries entries + 1
  | .held _ => 1
def uptoBulkAll {H : Type} : List (DataW H) → Nat
  | [] => 0
  | d :: r => uptoBulk d + uptoBulkAll r
def uptoBulkEntries {H : Type} : List (Lit × DataW H) → Nat
  | [] => 0
  | x :: r => uptoBulkEntry x + uptoBulkEntries r
def uptoBulkEntry {H : Type} : Lit × DataW H → Nat
  | (.string bytes, d) => bytes.length + uptoBulk d + 1
  | (_, d) => uptoBulk d + 1
 end
def uptoSmall : (H : Type) → List (DataW H) → Bool := fun _ ds => decide (uptoBulkAll ds ≤ 1048576)
def OpenSpec.upto (s : _root_.Go.ChangeSpec) : _root_.Go.OpenSpec := { _root_.Go.OpenSpec.ofChange s with cond := some uptoSmall }

/-- 'laws.FnValidMill', WHERE WHAT IT READS IS OF BULK AT MOST 1048576: true; the input reads as it did. -/
def fnValidMillUptoRow : OpenClaim := { program := "ytcebdokdekgeaaa", sum := "6697a86cb59169f7401bbb818081a7cc26ce6d54fe6f1c2fdcf5882315488ee8", func := "loop.example/paperrolls/laws.FnValidMill", spec := "fnValidMill", apart := false, narrowed := true }
def FnValidMillUptoSaid : Prop := fnValidMillUptoRow.holds Try.pinned (OpenSpec.upto fnValidMillSpec)

/-- 'laws.FnAreaHeld', WHERE WHAT IT READS IS OF BULK AT MOST 1048576: true; the input reads as it did. -/
def fnAreaHeldUptoRow : OpenClaim := { program := "ytcebdokdekgeaaa", sum := "6697a86cb59169f7401bbb818081a7cc26ce6d54fe6f1c2fdcf5882315488ee8", func := "loop.example/paperrolls/laws.FnAreaHeld", spec := "fnAreaHeld", apart := false, narrowed := true }
def FnAreaHeldUptoSaid : Prop := fnAreaHeldUptoRow.holds Try.pinned (OpenSpec.upto fnAreaHeldSpec)

/-- 'laws.FnApplyEvent', WHERE WHAT IT READS IS OF BULK AT MOST 1048576: true; the input reads as it did. -/
def fnApplyEventUptoRow : OpenClaim := { program := "ytcebdokdekgeaaa", sum := "6697a86cb59169f7401bbb818081a7cc26ce6d54fe6f1c2fdcf5882315488ee8", func := "loop.example/paperrolls/laws.FnApplyEvent", spec := "fnApplyEvent", inPlace := ["slices.overlaps[loop.example/paperrolls/impl.Entry]"], unfollowed := true, recurses := true, apart := false, narrowed := true }
def FnApplyEventUptoSaid : Prop := fnApplyEventUptoRow.holds Try.pinned (OpenSpec.upto fnApplyEventSpec)

/-- 'laws.FnApplyEventUndone', WHERE WHAT IT READS IS OF BULK AT MOST 1048576: true; the input reads as it did. -/
def fnApplyEventUndoneUptoRow : OpenClaim := { program := "ytcebdokdekgeaaa", sum := "6697a86cb59169f7401bbb818081a7cc26ce6d54fe6f1c2fdcf5882315488ee8", func := "loop.example/paperrolls/laws.FnApplyEventUndone", spec := "fnApplyEventUndone", inPlace := ["slices.overlaps[loop.example/paperrolls/impl.Entry]"], unfollowed := true, recurses := true, apart := false, narrowed := true }
def FnApplyEventUndoneUptoSaid : Prop := fnApplyEventUndoneUptoRow.holds Try.pinned (OpenSpec.upto fnApplyEventUndoneSpec)

/-- 'laws.FnRunBook', WHERE WHAT IT READS IS OF BULK AT MOST 1048576: true; the input reads as it did. -/
def fnRunBookUptoRow : OpenClaim := { program := "ytcebdokdekgeaaa", sum := "6697a86cb59169f7401bbb818081a7cc26ce6d54fe6f1c2fdcf5882315488ee8", func := "loop.example/paperrolls/laws.FnRunBook", spec := "fnRunBook", inPlace := ["slices.overlaps[loop.example/paperrolls/impl.Entry]"], unfollowed := true, recurses := true, apart := false, narrowed := true }
def FnRunBookUptoSaid : Prop := fnRunBookUptoRow.holds Try.pinned (OpenSpec.upto fnRunBookSpec)

/-- 'laws.FnApplyEventShip', WHERE WHAT IT READS IS OF BULK AT MOST 1048576: true; the input reads as it did. -/
def fnApplyEventShipUptoRow : OpenClaim := { program := "ytcebdokdekgeaaa", sum := "6697a86cb59169f7401bbb818081a7cc26ce6d54fe6f1c2fdcf5882315488ee8", func := "loop.example/paperrolls/laws.FnApplyEventShip", spec := "fnApplyEventShip", inPlace := ["slices.overlaps[loop.example/paperrolls/impl.Entry]"], unfollowed := true, recurses := true, apart := false, narrowed := true }
def FnApplyEventShipUptoSaid : Prop := fnApplyEventShipUptoRow.holds Try.pinned (OpenSpec.upto fnApplyEventShipSpec)

/-- 'laws.FnRunBookArea', WHERE WHAT IT READS IS OF BULK AT MOST 1048576: true; the input reads as it did. -/
def fnRunBookAreaUptoRow : OpenClaim := { program := "ytcebdokdekgeaaa", sum := "6697a86cb59169f7401bbb818081a7cc26ce6d54fe6f1c2fdcf5882315488ee8", func := "loop.example/paperrolls/laws.FnRunBookArea", spec := "fnRunBookArea", inPlace := ["slices.overlaps[loop.example/paperrolls/impl.Entry]"], unfollowed := true, recurses := true, apart := false, narrowed := true }
def FnRunBookAreaUptoSaid : Prop := fnRunBookAreaUptoRow.holds Try.pinned (OpenSpec.upto fnRunBookAreaSpec)

/-- 'laws.FnExactRunBook', WHERE WHAT IT READS IS OF BULK AT MOST 1048576: true; the input reads as it did. -/
def fnExactRunBookUptoRow : OpenClaim := { program := "ytcebdokdekgeaaa", sum := "6697a86cb59169f7401bbb818081a7cc26ce6d54fe6f1c2fdcf5882315488ee8", func := "loop.example/paperrolls/laws.FnExactRunBook", spec := "fnExactRunBook", inPlace := ["slices.overlaps[loop.example/paperrolls/impl.Entry]"], unfollowed := true, recurses := true, apart := false, narrowed := true }
def FnExactRunBookUptoSaid : Prop := fnExactRunBookUptoRow.holds Try.pinned (OpenSpec.upto fnExactRunBookSpec)

/-- 'laws.FnExactApplyEvent', WHERE WHAT IT READS IS OF BULK AT MOST 1048576: true; the input reads as it did. -/
def fnExactApplyEventUptoRow : OpenClaim := { program := "ytcebdokdekgeaaa", sum := "6697a86cb59169f7401bbb818081a7cc26ce6d54fe6f1c2fdcf5882315488ee8", func := "loop.example/paperrolls/laws.FnExactApplyEvent", spec := "fnExactApplyEvent", inPlace := ["slices.overlaps[loop.example/paperrolls/impl.Entry]"], unfollowed := true, recurses := true, apart := false, narrowed := true }
def FnExactApplyEventUptoSaid : Prop := fnExactApplyEventUptoRow.holds Try.pinned (OpenSpec.upto fnExactApplyEventSpec)

end Rows
end Go.Proofs.Ytcebdokdekgeaaa
