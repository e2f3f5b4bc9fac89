/-
  No cell of these rows narrows 'for every input' (looked for: loops, veiled, ifaces, maps, wideKeys, modest, calm, conditions, laid).
  DERIVED. THE GIVEN ROWS OF THIS SEAT. 11 by the template 'for every input the law returns true; each argument reads behind the call as it read before'; 0 by the template 'total and deterministic' (their statements: YtpimbibmlmjjpaaTotals.lean).
  GIVEN WITH THE SEED: the statements are not yours to turn. If you find one false, say at which input.
  Laid BY PROGRAM, IN A SANDBOX (cutbox-rows.mjs): the forced cells as the released guide's own fill.sh prints them over the translation ad460274c7e9ebab… (all of the seat's roots in one cut). By AI agents, Wed Nov 11 2026. No macro, syntax, notation, axiom, sorry.
-/
import Derived.Test.YtpimbibmlmjjpaaChecked
import GoSem.Claim
import GoSem.ClaimJoined
import GoSem.ClaimMapViews
import Derived.JoinedTies
import Derived.KernelRfl
namespace Go.Proofs.Ytpimbibmlmjjpaa
/- THE CELL 'sum', in the pinned program and in every row, IS THE sha256 OF THE DUMP (.gsa) THAT YtpimbibmlmjjpaaProg.lean LOADS. Nothing in Lean hashes anything: it is a label: what it is worth is what the hold of that sum in a sandbox is worth. -/
noncomputable def Try.pinned : Pinned := { name := "ytpimbibmlmjjpaa", sum := "ad460274c7e9ebabcf236d0142ef6bb526770e03c0df6f12d5a47982635e0215", checked := Try.checked }
namespace Rows
def none {H : Type} : Left H := { results := [], args := [] }

/-- 'laws.FnAboveOfRows': WHATEVER THE INPUT: true; the input reads as it did. -/
def fnAboveOfRowsSpec : ChangeSpec := { name := "fnAboveOfRows", fn := fun _ => fun
  | [d] => { results := [.lit (.bool true)], args := [d] }
  | _ => none }
def fnAboveOfRowsRow : OpenClaim := { program := "ytpimbibmlmjjpaa", sum := "ad460274c7e9ebabcf236d0142ef6bb526770e03c0df6f12d5a47982635e0215", func := "loop.example/paperrolls/laws.FnAboveOfRows", spec := "fnAboveOfRows", apart := false }
def FnAboveOfRowsSaid : Prop := fnAboveOfRowsRow.holds Try.pinned (OpenSpec.ofChange fnAboveOfRowsSpec)

/-- ITS FALSE NEIGHBOUR: 'it returns false'. Refute it at one input. -/
def fnAboveOfRowsWrong : ChangeSpec := { name := "fnAboveOfRows", fn := fun _ => fun
  | [d] => { results := [.lit (.bool false)], args := [d] }
  | _ => none }
def FnAboveOfRowsWrongFalsely : Prop := fnAboveOfRowsRow.holds Try.pinned (OpenSpec.ofChange fnAboveOfRowsWrong)

/-- 'laws.FnExactCountTakes': WHATEVER THE INPUT: true; the input reads as it did. -/
def fnExactCountTakesSpec : ChangeSpec := { name := "fnExactCountTakes", fn := fun _ => fun
  | [d] => { results := [.lit (.bool true)], args := [d] }
  | _ => none }
def fnExactCountTakesRow : OpenClaim := { program := "ytpimbibmlmjjpaa", sum := "ad460274c7e9ebabcf236d0142ef6bb526770e03c0df6f12d5a47982635e0215", func := "loop.example/paperrolls/laws.FnExactCountTakes", spec := "fnExactCountTakes", recurses := true, apart := false }
def FnExactCountTakesSaid : Prop := fnExactCountTakesRow.holds Try.pinned (OpenSpec.ofChange fnExactCountTakesSpec)

/-- ITS FALSE NEIGHBOUR: 'it returns false'. Refute it at one input. -/
def fnExactCountTakesWrong : ChangeSpec := { name := "fnExactCountTakes", fn := fun _ => fun
  | [d] => { results := [.lit (.bool false)], args := [d] }
  | _ => none }
def FnExactCountTakesWrongFalsely : Prop := fnExactCountTakesRow.holds Try.pinned (OpenSpec.ofChange fnExactCountTakesWrong)

/-- 'laws.FnExactTakeRoll': WHATEVER THE INPUT: true; the input reads as it did. -/
def fnExactTakeRollSpec : ChangeSpec := { name := "fnExactTakeRoll", fn := fun _ => fun
  | [d1, d2] => { results := [.lit (.bool true)], args := [d1, d2] }
  | _ => none }
def fnExactTakeRollRow : OpenClaim := { program := "ytpimbibmlmjjpaa", sum := "ad460274c7e9ebabcf236d0142ef6bb526770e03c0df6f12d5a47982635e0215", func := "loop.example/paperrolls/laws.FnExactTakeRoll", spec := "fnExactTakeRoll", apart := false }
def FnExactTakeRollSaid : Prop := fnExactTakeRollRow.holds Try.pinned (OpenSpec.ofChange fnExactTakeRollSpec)

/-- ITS FALSE NEIGHBOUR: 'it returns false'. Refute it at one input. -/
def fnExactTakeRollWrong : ChangeSpec := { name := "fnExactTakeRoll", fn := fun _ => fun
  | [d1, d2] => { results := [.lit (.bool false)], args := [d1, d2] }
  | _ => none }
def FnExactTakeRollWrongFalsely : Prop := fnExactTakeRollRow.holds Try.pinned (OpenSpec.ofChange fnExactTakeRollWrong)

/-- 'laws.FnPutRollAll': WHATEVER THE INPUT: true; the input reads as it did. -/
def fnPutRollAllSpec : ChangeSpec := { name := "fnPutRollAll", fn := fun _ => fun
  | [d] => { results := [.lit (.bool true)], args := [d] }
  | _ => none }
def fnPutRollAllRow : OpenClaim := { program := "ytpimbibmlmjjpaa", sum := "ad460274c7e9ebabcf236d0142ef6bb526770e03c0df6f12d5a47982635e0215", func := "loop.example/paperrolls/laws.FnPutRollAll", spec := "fnPutRollAll", apart := false }
def FnPutRollAllSaid : Prop := fnPutRollAllRow.holds Try.pinned (OpenSpec.ofChange fnPutRollAllSpec)

/-- ITS FALSE NEIGHBOUR: 'it returns false'. Refute it at one input. -/
def fnPutRollAllWrong : ChangeSpec := { name := "fnPutRollAll", fn := fun _ => fun
  | [d] => { results := [.lit (.bool false)], args := [d] }
  | _ => none }
def FnPutRollAllWrongFalsely : Prop := fnPutRollAllRow.holds Try.pinned (OpenSpec.ofChange fnPutRollAllWrong)

/-- 'laws.FnAboveOf': WHATEVER THE INPUT: true; the input reads as it did. -/
def fnAboveOfSpec : ChangeSpec := { name := "fnAboveOf", fn := fun _ => fun
  | [d] => { results := [.lit (.bool true)], args := [d] }
  | _ => none }
def fnAboveOfRow : OpenClaim := { program := "ytpimbibmlmjjpaa", sum := "ad460274c7e9ebabcf236d0142ef6bb526770e03c0df6f12d5a47982635e0215", func := "loop.example/paperrolls/laws.FnAboveOf", spec := "fnAboveOf", apart := false }
def FnAboveOfSaid : Prop := fnAboveOfRow.holds Try.pinned (OpenSpec.ofChange fnAboveOfSpec)

/-- ITS FALSE NEIGHBOUR: 'it returns false'. Refute it at one input. -/
def fnAboveOfWrong : ChangeSpec := { name := "fnAboveOf", fn := fun _ => fun
  | [d] => { results := [.lit (.bool false)], args := [d] }
  | _ => none }
def FnAboveOfWrongFalsely : Prop := fnAboveOfRow.holds Try.pinned (OpenSpec.ofChange fnAboveOfWrong)

/-- 'laws.FnCountTakesFull': WHATEVER THE INPUT: true; the input reads as it did. -/
def fnCountTakesFullSpec : ChangeSpec := { name := "fnCountTakesFull", fn := fun _ => fun
  | [d] => { results := [.lit (.bool true)], args := [d] }
  | _ => none }
def fnCountTakesFullRow : OpenClaim := { program := "ytpimbibmlmjjpaa", sum := "ad460274c7e9ebabcf236d0142ef6bb526770e03c0df6f12d5a47982635e0215", func := "loop.example/paperrolls/laws.FnCountTakesFull", spec := "fnCountTakesFull", recurses := true, apart := false }
def FnCountTakesFullSaid : Prop := fnCountTakesFullRow.holds Try.pinned (OpenSpec.ofChange fnCountTakesFullSpec)

/-- ITS FALSE NEIGHBOUR: 'it returns false'. Refute it at one input. -/
def fnCountTakesFullWrong : ChangeSpec := { name := "fnCountTakesFull", fn := fun _ => fun
  | [d] => { results := [.lit (.bool false)], args := [d] }
  | _ => none }
def FnCountTakesFullWrongFalsely : Prop := fnCountTakesFullRow.holds Try.pinned (OpenSpec.ofChange fnCountTakesFullWrong)

/-- 'laws.FnPutRoll': WHATEVER THE INPUT: true; the input reads as it did. -/
def fnPutRollSpec : ChangeSpec := { name := "fnPutRoll", fn := fun _ => fun
  | [d] => { results := [.lit (.bool true)], args := [d] }
  | _ => none }
def fnPutRollRow : OpenClaim := { program := "ytpimbibmlmjjpaa", sum := "ad460274c7e9ebabcf236d0142ef6bb526770e03c0df6f12d5a47982635e0215", func := "loop.example/paperrolls/laws.FnPutRoll", spec := "fnPutRoll", apart := false }
def FnPutRollSaid : Prop := fnPutRollRow.holds Try.pinned (OpenSpec.ofChange fnPutRollSpec)

/-- ITS FALSE NEIGHBOUR: 'it returns false'. Refute it at one input. -/
def fnPutRollWrong : ChangeSpec := { name := "fnPutRoll", fn := fun _ => fun
  | [d] => { results := [.lit (.bool false)], args := [d] }
  | _ => none }
def FnPutRollWrongFalsely : Prop := fnPutRollRow.holds Try.pinned (OpenSpec.ofChange fnPutRollWrong)

/-- 'laws.FnCountTakes': WHATEVER THE INPUT: true; the input reads as it did. -/
def fnCountTakesSpec : ChangeSpec := { name := "fnCountTakes", fn := fun _ => fun
  | [d] => { results := [.lit (.bool true)], args := [d] }
  | _ => none }
def fnCountTakesRow : OpenClaim := { program := "ytpimbibmlmjjpaa", sum := "ad460274c7e9ebabcf236d0142ef6bb526770e03c0df6f12d5a47982635e0215", func := "loop.example/paperrolls/laws.FnCountTakes", spec := "fnCountTakes", recurses := true, apart := false }
def FnCountTakesSaid : Prop := fnCountTakesRow.holds Try.pinned (OpenSpec.ofChange fnCountTakesSpec)

/-- ITS FALSE NEIGHBOUR: 'it returns false'. Refute it at one input. -/
def fnCountTakesWrong : ChangeSpec := { name := "fnCountTakes", fn := fun _ => fun
  | [d] => { results := [.lit (.bool false)], args := [d] }
  | _ => none }
def FnCountTakesWrongFalsely : Prop := fnCountTakesRow.holds Try.pinned (OpenSpec.ofChange fnCountTakesWrong)

/-- 'laws.FnTakeRoll': WHATEVER THE INPUT: true; the input reads as it did. -/
def fnTakeRollSpec : ChangeSpec := { name := "fnTakeRoll", fn := fun _ => fun
  | [d] => { results := [.lit (.bool true)], args := [d] }
  | _ => none }
def fnTakeRollRow : OpenClaim := { program := "ytpimbibmlmjjpaa", sum := "ad460274c7e9ebabcf236d0142ef6bb526770e03c0df6f12d5a47982635e0215", func := "loop.example/paperrolls/laws.FnTakeRoll", spec := "fnTakeRoll", apart := false }
def FnTakeRollSaid : Prop := fnTakeRollRow.holds Try.pinned (OpenSpec.ofChange fnTakeRollSpec)

/-- ITS FALSE NEIGHBOUR: 'it returns false'. Refute it at one input. -/
def fnTakeRollWrong : ChangeSpec := { name := "fnTakeRoll", fn := fun _ => fun
  | [d] => { results := [.lit (.bool false)], args := [d] }
  | _ => none }
def FnTakeRollWrongFalsely : Prop := fnTakeRollRow.holds Try.pinned (OpenSpec.ofChange fnTakeRollWrong)

/-- 'laws.FnExactMovesFor': WHATEVER THE INPUT: true; the input reads as it did. -/
def fnExactMovesForSpec : ChangeSpec := { name := "fnExactMovesFor", fn := fun _ => fun
  | [d1, d2] => { results := [.lit (.bool true)], args := [d1, d2] }
  | _ => none }
def fnExactMovesForRow : OpenClaim := { program := "ytpimbibmlmjjpaa", sum := "ad460274c7e9ebabcf236d0142ef6bb526770e03c0df6f12d5a47982635e0215", func := "loop.example/paperrolls/laws.FnExactMovesFor", spec := "fnExactMovesFor", recurses := true, apart := false }
def FnExactMovesForSaid : Prop := fnExactMovesForRow.holds Try.pinned (OpenSpec.ofChange fnExactMovesForSpec)

/-- ITS FALSE NEIGHBOUR: 'it returns false'. Refute it at one input. -/
def fnExactMovesForWrong : ChangeSpec := { name := "fnExactMovesFor", fn := fun _ => fun
  | [d1, d2] => { results := [.lit (.bool false)], args := [d1, d2] }
  | _ => none }
def FnExactMovesForWrongFalsely : Prop := fnExactMovesForRow.holds Try.pinned (OpenSpec.ofChange fnExactMovesForWrong)

/-- 'laws.FnMovesFor': WHATEVER THE INPUT: true; the input reads as it did. -/
def fnMovesForSpec : ChangeSpec := { name := "fnMovesFor", fn := fun _ => fun
  | [d] => { results := [.lit (.bool true)], args := [d] }
  | _ => none }
def fnMovesForRow : OpenClaim := { program := "ytpimbibmlmjjpaa", sum := "ad460274c7e9ebabcf236d0142ef6bb526770e03c0df6f12d5a47982635e0215", func := "loop.example/paperrolls/laws.FnMovesFor", spec := "fnMovesFor", recurses := true, apart := false }
def FnMovesForSaid : Prop := fnMovesForRow.holds Try.pinned (OpenSpec.ofChange fnMovesForSpec)

/-- ITS FALSE NEIGHBOUR: 'it returns false'. Refute it at one input. -/
def fnMovesForWrong : ChangeSpec := { name := "fnMovesFor", fn := fun _ => fun
  | [d] => { results := [.lit (.bool false)], args := [d] }
  | _ => none }
def FnMovesForWrongFalsely : Prop := fnMovesForRow.holds Try.pinned (OpenSpec.ofChange fnMovesForWrong)

/- THE SECOND FORM. 'bulk': how many values and letters a reading holds, each counted each time it is reached (what is shared counts as often as it is met; a slice's spare places count too). A statement '..UptoSaid' is the law's where the arguments, and the package variables that the reading takes, are together of bulk at most 1048576: NARROWER than '..Said'. Prove '..Said' where nothing that the law and all that it calls make is longer than what came in: it says more and counts as full. Else prove '..UptoSaid'. A law counts once. -/
mutual
def uptoBulk {H : Type} : DataW H → Nat
  | .lit (.string bytes) => bytes.length + 1
  | .lit _ => 1
  | .nil => 1
  | .ptr d => uptoBulk d + 1
  | .slice elems spare => uptoBulkAll elems + uptoBulkAll spare + 1
  | .agg parts => uptoBulkAll parts + 1
  | .iface _ d => uptoBulk d + 1
  | .map entries => uptoBulkEntries entries + 1
  | .held _ => 1
def uptoBulkAll {H : Type} : List (DataW H) → Nat
  | [] => 0
  | d :: r => uptoBulk d + uptoBulkAll r
def uptoBulkEntries {H : Type} : List (Lit × DataW H) → Nat
  | [] => 0
  | x :: r => uptoBulkEntry x + uptoBulkEntries r
def uptoBulkEntry {H : Type} : Lit × DataW H → Nat
  | (.string bytes, d) => bytes.length + uptoBulk d + 1
  | (_, d) => uptoBulk d + 1
 end
def uptoSmall : (H : Type) → List (DataW H) → Bool := fun _ ds => decide (uptoBulkAll ds ≤ 1048576)
def OpenSpec.upto (s : _root_.Go.ChangeSpec) : _root_.Go.OpenSpec := { _root_.Go.OpenSpec.ofChange s with cond := some uptoSmall }

/-- 'laws.FnAboveOfRows', WHERE WHAT IT READS IS OF BULK AT MOST 1048576: true; the input reads as it did. -/
def fnAboveOfRowsUptoRow : OpenClaim := { program := "ytpimbibmlmjjpaa", sum := "ad460274c7e9ebabcf236d0142ef6bb526770e03c0df6f12d5a47982635e0215", func := "loop.example/paperrolls/laws.FnAboveOfRows", spec := "fnAboveOfRows", apart := false, narrowed := true }
def FnAboveOfRowsUptoSaid : Prop := fnAboveOfRowsUptoRow.holds Try.pinned (OpenSpec.upto fnAboveOfRowsSpec)

/-- 'laws.FnExactCountTakes', WHERE WHAT IT READS IS OF BULK AT MOST 1048576: true; the input reads as it did. -/
def fnExactCountTakesUptoRow : OpenClaim := { program := "ytpimbibmlmjjpaa", sum := "ad460274c7e9ebabcf236d0142ef6bb526770e03c0df6f12d5a47982635e0215", func := "loop.example/paperrolls/laws.FnExactCountTakes", spec := "fnExactCountTakes", recurses := true, apart := false, narrowed := true }
def FnExactCountTakesUptoSaid : Prop := fnExactCountTakesUptoRow.holds Try.pinned (OpenSpec.upto fnExactCountTakesSpec)

/-- 'laws.FnExactTakeRoll', WHERE WHAT IT READS IS OF BULK AT MOST 1048576: true; the input reads as it did. -/
def fnExactTakeRollUptoRow : OpenClaim := { program := "ytpimbibmlmjjpaa", sum := "ad460274c7e9ebabcf236d0142ef6bb526770e03c0df6f12d5a47982635e0215", func := "loop.example/paperrolls/laws.FnExactTakeRoll", spec := "fnExactTakeRoll", apart := false, narrowed := true }
def FnExactTakeRollUptoSaid : Prop := fnExactTakeRollUptoRow.holds Try.pinned (OpenSpec.upto fnExactTakeRollSpec)

/-- 'laws.FnPutRollAll', WHERE WHAT IT READS IS OF BULK AT MOST 1048576: true; the input reads as it did. -/
def fnPutRollAllUptoRow : OpenClaim := { program := "ytpimbibmlmjjpaa", sum := "ad460274c7e9ebabcf236d0142ef6bb526770e03c0df6f12d5a47982635e0215", func := "loop.example/paperrolls/laws.FnPutRollAll", spec := "fnPutRollAll", apart := false, narrowed := true }
def FnPutRollAllUptoSaid : Prop := fnPutRollAllUptoRow.holds Try.pinned (OpenSpec.upto fnPutRollAllSpec)

/-- 'laws.FnAboveOf', WHERE WHAT IT READS IS OF BULK AT MOST 1048576: true; the input reads as it did. -/
def fnAboveOfUptoRow : OpenClaim := { program := "ytpimbibmlmjjpaa", sum := "ad460274c7e9ebabcf236d0142ef6bb526770e03c0df6f12d5a47982635e0215", func := "loop.example/paperrolls/laws.FnAboveOf", spec := "fnAboveOf", apart := false, narrowed := true }
def FnAboveOfUptoSaid : Prop := fnAboveOfUptoRow.holds Try.pinned (OpenSpec.upto fnAboveOfSpec)

/-- 'laws.FnCountTakesFull', WHERE WHAT IT READS IS OF BULK AT MOST 1048576: true; the input reads as it did. -/
def fnCountTakesFullUptoRow : OpenClaim := { program := "ytpimbibmlmjjpaa", sum := "ad460274c7e9ebabcf236d0142ef6bb526770e03c0df6f12d5a47982635e0215", func := "loop.example/paperrolls/laws.FnCountTakesFull", spec := "fnCountTakesFull", recurses := true, apart := false, narrowed := true }
def FnCountTakesFullUptoSaid : Prop := fnCountTakesFullUptoRow.holds Try.pinned (OpenSpec.upto fnCountTakesFullSpec)

/-- 'laws.FnPutRoll', WHERE WHAT IT READS IS OF BULK AT MOST 1048576: true; the input reads as it did. -/
def fnPutRollUptoRow : OpenClaim := { program := "ytpimbibmlmjjpaa", sum := "ad460274c7e9ebabcf236d0142ef6bb526770e03c0df6f12d5a47982635e0215", func := "loop.example/paperrolls/laws.FnPutRoll", spec := "fnPutRoll", apart := false, narrowed := true }
def FnPutRollUptoSaid : Prop := fnPutRollUptoRow.holds Try.pinned (OpenSpec.upto fnPutRollSpec)

/-- 'laws.FnCountTakes', WHERE WHAT IT READS IS OF BULK AT MOST 1048576: true; the input reads as it did. -/
def fnCountTakesUptoRow : OpenClaim := { program := "ytpimbibmlmjjpaa", sum := "ad460274c7e9ebabcf236d0142ef6bb526770e03c0df6f12d5a47982635e0215", func := "loop.example/paperrolls/laws.FnCountTakes", spec := "fnCountTakes", recurses := true, apart := false, narrowed := true }
def FnCountTakesUptoSaid : Prop := fnCountTakesUptoRow.holds Try.pinned (OpenSpec.upto fnCountTakesSpec)

/-- 'laws.FnTakeRoll', WHERE WHAT IT READS IS OF BULK AT MOST 1048576: true; the input reads as it did. -/
def fnTakeRollUptoRow : OpenClaim := { program := "ytpimbibmlmjjpaa", sum := "ad460274c7e9ebabcf236d0142ef6bb526770e03c0df6f12d5a47982635e0215", func := "loop.example/paperrolls/laws.FnTakeRoll", spec := "fnTakeRoll", apart := false, narrowed := true }
def FnTakeRollUptoSaid : Prop := fnTakeRollUptoRow.holds Try.pinned (OpenSpec.upto fnTakeRollSpec)

/-- 'laws.FnExactMovesFor', WHERE WHAT IT READS IS OF BULK AT MOST 1048576: true; the input reads as it did. -/
def fnExactMovesForUptoRow : OpenClaim := { program := "ytpimbibmlmjjpaa", sum := "ad460274c7e9ebabcf236d0142ef6bb526770e03c0df6f12d5a47982635e0215", func := "loop.example/paperrolls/laws.FnExactMovesFor", spec := "fnExactMovesFor", recurses := true, apart := false, narrowed := true }
def FnExactMovesForUptoSaid : Prop := fnExactMovesForUptoRow.holds Try.pinned (OpenSpec.upto fnExactMovesForSpec)

/-- 'laws.FnMovesFor', WHERE WHAT IT READS IS OF BULK AT MOST 1048576: true; the input reads as it did. -/
def fnMovesForUptoRow : OpenClaim := { program := "ytpimbibmlmjjpaa", sum := "ad460274c7e9ebabcf236d0142ef6bb526770e03c0df6f12d5a47982635e0215", func := "loop.example/paperrolls/laws.FnMovesFor", spec := "fnMovesFor", recurses := true, apart := false, narrowed := true }
def FnMovesForUptoSaid : Prop := fnMovesForUptoRow.holds Try.pinned (OpenSpec.upto fnMovesForSpec)

end Rows
end Go.Proofs.Ytpimbibmlmjjpaa
