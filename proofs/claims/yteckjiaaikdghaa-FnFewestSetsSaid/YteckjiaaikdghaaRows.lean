/-
  No cell of these rows narrows 'for every input' (looked for: loops, veiled, ifaces, maps, wideKeys, modest, calm, conditions, laid).
  DERIVED. THE GIVEN ROWS OF THIS SEAT. 9 by the template 'for every input the law returns true; each argument reads behind the call as it read before'; 0 by the template 'total and deterministic' (their statements: YteckjiaaikdghaaTotals.lean).
  GIVEN WITH THE SEED: the statements are not yours to turn. If you find one false, say at which input.
  Laid BY PROGRAM, IN A SANDBOX (cutbox-rows.mjs): the forced cells as the released guide's own fill.sh prints them over the translation bfa56327a09cc49d… (all of the seat's roots in one cut). By AI agents, Wed Nov 11 2026. No macro, syntax, notation, axiom, sorry.
-/
import Derived.Test.YteckjiaaikdghaaChecked
import GoSem.Claim
import GoSem.ClaimJoined
import GoSem.ClaimMapViews
import Derived.JoinedTies
import Derived.KernelRfl
namespace Go.Proofs.Yteckjiaaikdghaa
/- THE CELL 'sum', in the pinned program and in every row, IS THE sha256 OF THE DUMP (.gsa) THAT YteckjiaaikdghaaProg.lean LOADS. Nothing in Lean hashes anything: it is a label: what it is worth is what the hold of that sum in a sandbox is worth. -/
noncomputable def Try.pinned : Pinned := { name := "yteckjiaaikdghaa", sum := "bfa56327a09cc49d8a914735807983e45fe4913851bcea68a2ada9c4d2bf57c6", checked := Try.checked }
namespace Rows
def none {H : Type} : Left H := { results := [], args := [] }

/-- 'laws.FnExactLeastSpliced': WHATEVER THE INPUT: true; the input reads as it did. -/
def fnExactLeastSplicedSpec : ChangeSpec := { name := "fnExactLeastSpliced", fn := fun _ => fun
  | [d1, d2] => { results := [.lit (.bool true)], args := [d1, d2] }
  | _ => none }
def fnExactLeastSplicedRow : OpenClaim := { program := "yteckjiaaikdghaa", sum := "bfa56327a09cc49d8a914735807983e45fe4913851bcea68a2ada9c4d2bf57c6", func := "loop.example/paperrolls/laws.FnExactLeastSpliced", spec := "fnExactLeastSpliced", unfollowed := true, recurses := true, apart := false }
def FnExactLeastSplicedSaid : Prop := fnExactLeastSplicedRow.holds Try.pinned (OpenSpec.ofChange fnExactLeastSplicedSpec)

/-- ITS FALSE NEIGHBOUR: 'it returns false'. Refute it at one input. -/
def fnExactLeastSplicedWrong : ChangeSpec := { name := "fnExactLeastSpliced", fn := fun _ => fun
  | [d1, d2] => { results := [.lit (.bool false)], args := [d1, d2] }
  | _ => none }
def FnExactLeastSplicedWrongFalsely : Prop := fnExactLeastSplicedRow.holds Try.pinned (OpenSpec.ofChange fnExactLeastSplicedWrong)

/-- 'laws.FnExactBestOrder': WHATEVER THE INPUT: true; the input reads as it did. -/
def fnExactBestOrderSpec : ChangeSpec := { name := "fnExactBestOrder", fn := fun _ => fun
  | [d] => { results := [.lit (.bool true)], args := [d] }
  | _ => none }
def fnExactBestOrderRow : OpenClaim := { program := "yteckjiaaikdghaa", sum := "bfa56327a09cc49d8a914735807983e45fe4913851bcea68a2ada9c4d2bf57c6", func := "loop.example/paperrolls/laws.FnExactBestOrder", spec := "fnExactBestOrder", unfollowed := true, recurses := true, apart := false }
def FnExactBestOrderSaid : Prop := fnExactBestOrderRow.holds Try.pinned (OpenSpec.ofChange fnExactBestOrderSpec)

/-- ITS FALSE NEIGHBOUR: 'it returns false'. Refute it at one input. -/
def fnExactBestOrderWrong : ChangeSpec := { name := "fnExactBestOrder", fn := fun _ => fun
  | [d] => { results := [.lit (.bool false)], args := [d] }
  | _ => none }
def FnExactBestOrderWrongFalsely : Prop := fnExactBestOrderRow.holds Try.pinned (OpenSpec.ofChange fnExactBestOrderWrong)

/-- 'laws.FnExactGreedySets': WHATEVER THE INPUT: true; the input reads as it did. -/
def fnExactGreedySetsSpec : ChangeSpec := { name := "fnExactGreedySets", fn := fun _ => fun
  | [d1, d2, d3] => { results := [.lit (.bool true)], args := [d1, d2, d3] }
  | _ => none }
def fnExactGreedySetsRow : OpenClaim := { program := "yteckjiaaikdghaa", sum := "bfa56327a09cc49d8a914735807983e45fe4913851bcea68a2ada9c4d2bf57c6", func := "loop.example/paperrolls/laws.FnExactGreedySets", spec := "fnExactGreedySets", unfollowed := true, recurses := true, apart := false }
def FnExactGreedySetsSaid : Prop := fnExactGreedySetsRow.holds Try.pinned (OpenSpec.ofChange fnExactGreedySetsSpec)

/-- ITS FALSE NEIGHBOUR: 'it returns false'. Refute it at one input. -/
def fnExactGreedySetsWrong : ChangeSpec := { name := "fnExactGreedySets", fn := fun _ => fun
  | [d1, d2, d3] => { results := [.lit (.bool false)], args := [d1, d2, d3] }
  | _ => none }
def FnExactGreedySetsWrongFalsely : Prop := fnExactGreedySetsRow.holds Try.pinned (OpenSpec.ofChange fnExactGreedySetsWrong)

/-- 'laws.FnLeastSpliced': WHATEVER THE INPUT: true; the input reads as it did. -/
def fnLeastSplicedSpec : ChangeSpec := { name := "fnLeastSpliced", fn := fun _ => fun
  | [d] => { results := [.lit (.bool true)], args := [d] }
  | _ => none }
def fnLeastSplicedRow : OpenClaim := { program := "yteckjiaaikdghaa", sum := "bfa56327a09cc49d8a914735807983e45fe4913851bcea68a2ada9c4d2bf57c6", func := "loop.example/paperrolls/laws.FnLeastSpliced", spec := "fnLeastSpliced", unfollowed := true, recurses := true, apart := false }
def FnLeastSplicedSaid : Prop := fnLeastSplicedRow.holds Try.pinned (OpenSpec.ofChange fnLeastSplicedSpec)

/-- ITS FALSE NEIGHBOUR: 'it returns false'. Refute it at one input. -/
def fnLeastSplicedWrong : ChangeSpec := { name := "fnLeastSpliced", fn := fun _ => fun
  | [d] => { results := [.lit (.bool false)], args := [d] }
  | _ => none }
def FnLeastSplicedWrongFalsely : Prop := fnLeastSplicedRow.holds Try.pinned (OpenSpec.ofChange fnLeastSplicedWrong)

/-- 'laws.FnBestOrder': WHATEVER THE INPUT: true; the input reads as it did. -/
def fnBestOrderSpec : ChangeSpec := { name := "fnBestOrder", fn := fun _ => fun
  | [d] => { results := [.lit (.bool true)], args := [d] }
  | _ => none }
def fnBestOrderRow : OpenClaim := { program := "yteckjiaaikdghaa", sum := "bfa56327a09cc49d8a914735807983e45fe4913851bcea68a2ada9c4d2bf57c6", func := "loop.example/paperrolls/laws.FnBestOrder", spec := "fnBestOrder", unfollowed := true, recurses := true, apart := false }
def FnBestOrderSaid : Prop := fnBestOrderRow.holds Try.pinned (OpenSpec.ofChange fnBestOrderSpec)

/-- ITS FALSE NEIGHBOUR: 'it returns false'. Refute it at one input. -/
def fnBestOrderWrong : ChangeSpec := { name := "fnBestOrder", fn := fun _ => fun
  | [d] => { results := [.lit (.bool false)], args := [d] }
  | _ => none }
def FnBestOrderWrongFalsely : Prop := fnBestOrderRow.holds Try.pinned (OpenSpec.ofChange fnBestOrderWrong)

/-- 'laws.FnGreedySets': WHATEVER THE INPUT: true; the input reads as it did. -/
def fnGreedySetsSpec : ChangeSpec := { name := "fnGreedySets", fn := fun _ => fun
  | [d] => { results := [.lit (.bool true)], args := [d] }
  | _ => none }
def fnGreedySetsRow : OpenClaim := { program := "yteckjiaaikdghaa", sum := "bfa56327a09cc49d8a914735807983e45fe4913851bcea68a2ada9c4d2bf57c6", func := "loop.example/paperrolls/laws.FnGreedySets", spec := "fnGreedySets", unfollowed := true, recurses := true, apart := false }
def FnGreedySetsSaid : Prop := fnGreedySetsRow.holds Try.pinned (OpenSpec.ofChange fnGreedySetsSpec)

/-- ITS FALSE NEIGHBOUR: 'it returns false'. Refute it at one input. -/
def fnGreedySetsWrong : ChangeSpec := { name := "fnGreedySets", fn := fun _ => fun
  | [d] => { results := [.lit (.bool false)], args := [d] }
  | _ => none }
def FnGreedySetsWrongFalsely : Prop := fnGreedySetsRow.holds Try.pinned (OpenSpec.ofChange fnGreedySetsWrong)

/-- 'laws.FnFewestSets': WHATEVER THE INPUT: true; the input reads as it did. -/
def fnFewestSetsSpec : ChangeSpec := { name := "fnFewestSets", fn := fun _ => fun
  | [d] => { results := [.lit (.bool true)], args := [d] }
  | _ => none }
def fnFewestSetsRow : OpenClaim := { program := "yteckjiaaikdghaa", sum := "bfa56327a09cc49d8a914735807983e45fe4913851bcea68a2ada9c4d2bf57c6", func := "loop.example/paperrolls/laws.FnFewestSets", spec := "fnFewestSets", unfollowed := true, recurses := true, apart := false }
def FnFewestSetsSaid : Prop := fnFewestSetsRow.holds Try.pinned (OpenSpec.ofChange fnFewestSetsSpec)

/-- ITS FALSE NEIGHBOUR: 'it returns false'. Refute it at one input. -/
def fnFewestSetsWrong : ChangeSpec := { name := "fnFewestSets", fn := fun _ => fun
  | [d] => { results := [.lit (.bool false)], args := [d] }
  | _ => none }
def FnFewestSetsWrongFalsely : Prop := fnFewestSetsRow.holds Try.pinned (OpenSpec.ofChange fnFewestSetsWrong)

/-- 'laws.FnPriceBound': WHATEVER THE INPUT: true; the input reads as it did. -/
def fnPriceBoundSpec : ChangeSpec := { name := "fnPriceBound", fn := fun _ => fun
  | [d] => { results := [.lit (.bool true)], args := [d] }
  | _ => none }
def fnPriceBoundRow : OpenClaim := { program := "yteckjiaaikdghaa", sum := "bfa56327a09cc49d8a914735807983e45fe4913851bcea68a2ada9c4d2bf57c6", func := "loop.example/paperrolls/laws.FnPriceBound", spec := "fnPriceBound", unfollowed := true, recurses := true, apart := false }
def FnPriceBoundSaid : Prop := fnPriceBoundRow.holds Try.pinned (OpenSpec.ofChange fnPriceBoundSpec)

/-- ITS FALSE NEIGHBOUR: 'it returns false'. Refute it at one input. -/
def fnPriceBoundWrong : ChangeSpec := { name := "fnPriceBound", fn := fun _ => fun
  | [d] => { results := [.lit (.bool false)], args := [d] }
  | _ => none }
def FnPriceBoundWrongFalsely : Prop := fnPriceBoundRow.holds Try.pinned (OpenSpec.ofChange fnPriceBoundWrong)

/-- 'laws.FnPriceBoundWidths': WHATEVER THE INPUT: true; the input reads as it did. -/
def fnPriceBoundWidthsSpec : ChangeSpec := { name := "fnPriceBoundWidths", fn := fun _ => fun
  | [d] => { results := [.lit (.bool true)], args := [d] }
  | _ => none }
def fnPriceBoundWidthsRow : OpenClaim := { program := "yteckjiaaikdghaa", sum := "bfa56327a09cc49d8a914735807983e45fe4913851bcea68a2ada9c4d2bf57c6", func := "loop.example/paperrolls/laws.FnPriceBoundWidths", spec := "fnPriceBoundWidths", unfollowed := true, recurses := true, apart := false }
def FnPriceBoundWidthsSaid : Prop := fnPriceBoundWidthsRow.holds Try.pinned (OpenSpec.ofChange fnPriceBoundWidthsSpec)

/-- ITS FALSE NEIGHBOUR: 'it returns false'. Refute it at one input. -/
def fnPriceBoundWidthsWrong : ChangeSpec := { name := "fnPriceBoundWidths", fn := fun _ => fun
  | [d] => { results := [.lit (.bool false)], args := [d] }
  | _ => none }
def FnPriceBoundWidthsWrongFalsely : Prop := fnPriceBoundWidthsRow.holds Try.pinned (OpenSpec.ofChange fnPriceBoundWidthsWrong)

/- THE SECOND FORM. 'bulk': how many values and letters a reading holds, each counted each time it is reached (what is shared counts as often as it is met; a slice's spare places count too). A statement '..UptoSaid' is the law's where the arguments, and the package variables that the reading takes, are together of bulk at most 1048576: NARROWER than '..Said'. Prove '..Said' where nothing that the law and all that it calls make is longer than what came in: it says more and counts as full. Else prove '..UptoSaid'. A law counts once. -/
mutual
def uptoBulk {H : Type} : DataW H → Nat
  | .lit (.string bytes) => bytes.length + 1
  | .lit _ => 1
  | .nil => 1
  | .ptr d => uptoBulk d + 1
  | .slice elems spare => uptoBulkAll elems + uptoBulkAll spare + 1
  | .agg parts => uptoBulkAll parts + 1
  | .iface _ d => uptoBulk d + 1
  | .map entries => uptoBulkEntries entries + 1
  | .held _ => 1
def uptoBulkAll {H : Type} : List (DataW H) → Nat
  | [] => 0
  | d :: r => uptoBulk d + uptoBulkAll r
def uptoBulkEntries {H : Type} : List (Lit × DataW H) → Nat
  | [] => 0
  | x :: r => uptoBulkEntry x + uptoBulkEntries r
def uptoBulkEntry {H : Type} : Lit × DataW H → Nat
  | (.string bytes, d) => bytes.length + uptoBulk d + 1
  | (_, d) => uptoBulk d + 1
 end
def uptoSmall : (H : Type) → List (DataW H) → Bool := fun _ ds => decide (uptoBulkAll ds ≤ 1048576)
def OpenSpec.upto (s : _root_.Go.ChangeSpec) : _root_.Go.OpenSpec := { _root_.Go.OpenSpec.ofChange s with cond := some uptoSmall }

/-- 'laws.FnExactLeastSpliced', WHERE WHAT IT READS IS OF BULK AT MOST 1048576: true; the input reads as it did. -/
def fnExactLeastSplicedUptoRow : OpenClaim := { program := "yteckjiaaikdghaa", sum := "bfa56327a09cc49d8a914735807983e45fe4913851bcea68a2ada9c4d2bf57c6", func := "loop.example/paperrolls/laws.FnExactLeastSpliced", spec := "fnExactLeastSpliced", unfollowed := true, recurses := true, apart := false, narrowed := true }
def FnExactLeastSplicedUptoSaid : Prop := fnExactLeastSplicedUptoRow.holds Try.pinned (OpenSpec.upto fnExactLeastSplicedSpec)

/-- 'laws.FnExactBestOrder', WHERE WHAT IT READS IS OF BULK AT MOST 1048576: true; the input reads as it did. -/
def fnExactBestOrderUptoRow : OpenClaim := { program := "yteckjiaaikdghaa", sum := "bfa56327a09cc49d8a914735807983e45fe4913851bcea68a2ada9c4d2bf57c6", func := "loop.example/paperrolls/laws.FnExactBestOrder", spec := "fnExactBestOrder", unfollowed := true, recurses := true, apart := false, narrowed := true }
def FnExactBestOrderUptoSaid : Prop := fnExactBestOrderUptoRow.holds Try.pinned (OpenSpec.upto fnExactBestOrderSpec)

/-- 'laws.FnExactGreedySets', WHERE WHAT IT READS IS OF BULK AT MOST 1048576: true; the input reads as it did. -/
def fnExactGreedySetsUptoRow : OpenClaim := { program := "yteckjiaaikdghaa", sum := "bfa56327a09cc49d8a914735807983e45fe4913851bcea68a2ada9c4d2bf57c6", func := "loop.example/paperrolls/laws.FnExactGreedySets", spec := "fnExactGreedySets", unfollowed := true, recurses := true, apart := false, narrowed := true }
def FnExactGreedySetsUptoSaid : Prop := fnExactGreedySetsUptoRow.holds Try.pinned (OpenSpec.upto fnExactGreedySetsSpec)

/-- 'laws.FnLeastSpliced', WHERE WHAT IT READS IS OF BULK AT MOST 1048576: true; the input reads as it did. -/
def fnLeastSplicedUptoRow : OpenClaim := { program := "yteckjiaaikdghaa", sum := "bfa56327a09cc49d8a914735807983e45fe4913851bcea68a2ada9c4d2bf57c6", func := "loop.example/paperrolls/laws.FnLeastSpliced", spec := "fnLeastSpliced", unfollowed := true, recurses := true, apart := false, narrowed := true }
def FnLeastSplicedUptoSaid : Prop := fnLeastSplicedUptoRow.holds Try.pinned (OpenSpec.upto fnLeastSplicedSpec)

/-- 'laws.FnBestOrder', WHERE WHAT IT READS IS OF BULK AT MOST 1048576: true; the input reads as it did. -/
def fnBestOrderUptoRow : OpenClaim := { program := "yteckjiaaikdghaa", sum := "bfa56327a09cc49d8a914735807983e45fe4913851bcea68a2ada9c4d2bf57c6", func := "loop.example/paperrolls/laws.FnBestOrder", spec := "fnBestOrder", unfollowed := true, recurses := true, apart := false, narrowed := true }
def FnBestOrderUptoSaid : Prop := fnBestOrderUptoRow.holds Try.pinned (OpenSpec.upto fnBestOrderSpec)

/-- 'laws.FnGreedySets', WHERE WHAT IT READS IS OF BULK AT MOST 1048576: true; the input reads as it did. -/
def fnGreedySetsUptoRow : OpenClaim := { program := "yteckjiaaikdghaa", sum := "bfa56327a09cc49d8a914735807983e45fe4913851bcea68a2ada9c4d2bf57c6", func := "loop.example/paperrolls/laws.FnGreedySets", spec := "fnGreedySets", unfollowed := true, recurses := true, apart := false, narrowed := true }
def FnGreedySetsUptoSaid : Prop := fnGreedySetsUptoRow.holds Try.pinned (OpenSpec.upto fnGreedySetsSpec)

/-- 'laws.FnFewestSets', WHERE WHAT IT READS IS OF BULK AT MOST 1048576: true; the input reads as it did. -/
def fnFewestSetsUptoRow : OpenClaim := { program := "yteckjiaaikdghaa", sum := "bfa56327a09cc49d8a914735807983e45fe4913851bcea68a2ada9c4d2bf57c6", func := "loop.example/paperrolls/laws.FnFewestSets", spec := "fnFewestSets", unfollowed := true, recurses := true, apart := false, narrowed := true }
def FnFewestSetsUptoSaid : Prop := fnFewestSetsUptoRow.holds Try.pinned (OpenSpec.upto fnFewestSetsSpec)

/-- 'laws.FnPriceBound', WHERE WHAT IT READS IS OF BULK AT MOST 1048576: true; the input reads as it did. -/
def fnPriceBoundUptoRow : OpenClaim := { program := "yteckjiaaikdghaa", sum := "bfa56327a09cc49d8a914735807983e45fe4913851bcea68a2ada9c4d2bf57c6", func := "loop.example/paperrolls/laws.FnPriceBound", spec := "fnPriceBound", unfollowed := true, recurses := true, apart := false, narrowed := true }
def FnPriceBoundUptoSaid : Prop := fnPriceBoundUptoRow.holds Try.pinned (OpenSpec.upto fnPriceBoundSpec)

/-- 'laws.FnPriceBoundWidths', WHERE WHAT IT READS IS OF BULK AT MOST 1048576: true; the input reads as it did. -/
def fnPriceBoundWidthsUptoRow : OpenClaim := { program := "yteckjiaaikdghaa", sum := "bfa56327a09cc49d8a914735807983e45fe4913851bcea68a2ada9c4d2bf57c6", func := "loop.example/paperrolls/laws.FnPriceBoundWidths", spec := "fnPriceBoundWidths", unfollowed := true, recurses := true, apart := false, narrowed := true }
def FnPriceBoundWidthsUptoSaid : Prop := fnPriceBoundWidthsUptoRow.holds Try.pinned (OpenSpec.upto fnPriceBoundWidthsSpec)

end Rows
end Go.Proofs.Yteckjiaaikdghaa
