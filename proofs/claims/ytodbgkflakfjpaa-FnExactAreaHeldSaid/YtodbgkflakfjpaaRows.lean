/-
  No cell of these rows narrows 'for every input' (looked for: loops, veiled, ifaces, maps, wideKeys, modest, calm, conditions, laid).
  DERIVED. THE GIVEN ROWS OF THIS SEAT. 12 by the template 'for every input the law returns true; each argument reads behind the call as it read before'; 0 by the template 'total and deterministic' (their statements: YtodbgkflakfjpaaTotals.lean).
  GIVEN WITH THE SEED: the statements are not yours to turn. If you find one false, say at which input.
  Laid BY PROGRAM, IN A SANDBOX (cutbox-rows.mjs): the forced cells as the released guide's own fill.sh prints them over the translation fa8073bb6e4b55dd… (all of the seat's roots in one cut). By AI agents, Wed Nov 11 2026. No macro, syntax, notation, axiom, sorry.
-/
import Derived.Test.YtodbgkflakfjpaaChecked
import GoSem.Claim
import GoSem.ClaimJoined
import GoSem.ClaimMapViews
import Derived.JoinedTies
import Derived.KernelRfl
namespace Go.Proofs.Ytodbgkflakfjpaa
/- THE CELL 'sum', in the pinned program and in every row, IS THE sha256 OF THE DUMP (.gsa) THAT YtodbgkflakfjpaaProg.lean LOADS. Nothing in Lean hashes anything: it is a label: what it is worth is what the hold of that sum in a sandbox is worth. -/
noncomputable def Try.pinned : Pinned := { name := "ytodbgkflakfjpaa", sum := "fa8073bb6e4b55dd07021865573da552945f61a0e3ee92c6cc5704142d3823b7", checked := Try.checked }
namespace Rows
def none {H : Type} : Left H := { results := [], args := [] }

/-- 'laws.FnExactGoodStretches': WHATEVER THE INPUT: true; the input reads as it did. -/
def fnExactGoodStretchesSpec : ChangeSpec := { name := "fnExactGoodStretches", fn := fun _ => fun
  | [d1, d2, d3, d4] => { results := [.lit (.bool true)], args := [d1, d2, d3, d4] }
  | _ => none }
def fnExactGoodStretchesRow : OpenClaim := { program := "ytodbgkflakfjpaa", sum := "fa8073bb6e4b55dd07021865573da552945f61a0e3ee92c6cc5704142d3823b7", func := "loop.example/paperrolls/laws.FnExactGoodStretches", spec := "fnExactGoodStretches", apart := false }
def FnExactGoodStretchesSaid : Prop := fnExactGoodStretchesRow.holds Try.pinned (OpenSpec.ofChange fnExactGoodStretchesSpec)

/-- ITS FALSE NEIGHBOUR: 'it returns false'. Refute it at one input. -/
def fnExactGoodStretchesWrong : ChangeSpec := { name := "fnExactGoodStretches", fn := fun _ => fun
  | [d1, d2, d3, d4] => { results := [.lit (.bool false)], args := [d1, d2, d3, d4] }
  | _ => none }
def FnExactGoodStretchesWrongFalsely : Prop := fnExactGoodStretchesRow.holds Try.pinned (OpenSpec.ofChange fnExactGoodStretchesWrong)

/-- 'laws.FnExactRollsWith': WHATEVER THE INPUT: true; the input reads as it did. -/
def fnExactRollsWithSpec : ChangeSpec := { name := "fnExactRollsWith", fn := fun _ => fun
  | [d1, d2, d3] => { results := [.lit (.bool true)], args := [d1, d2, d3] }
  | _ => none }
def fnExactRollsWithRow : OpenClaim := { program := "ytodbgkflakfjpaa", sum := "fa8073bb6e4b55dd07021865573da552945f61a0e3ee92c6cc5704142d3823b7", func := "loop.example/paperrolls/laws.FnExactRollsWith", spec := "fnExactRollsWith", apart := false }
def FnExactRollsWithSaid : Prop := fnExactRollsWithRow.holds Try.pinned (OpenSpec.ofChange fnExactRollsWithSpec)

/-- ITS FALSE NEIGHBOUR: 'it returns false'. Refute it at one input. -/
def fnExactRollsWithWrong : ChangeSpec := { name := "fnExactRollsWith", fn := fun _ => fun
  | [d1, d2, d3] => { results := [.lit (.bool false)], args := [d1, d2, d3] }
  | _ => none }
def FnExactRollsWithWrongFalsely : Prop := fnExactRollsWithRow.holds Try.pinned (OpenSpec.ofChange fnExactRollsWithWrong)

/-- 'laws.FnExactBadRolls': WHATEVER THE INPUT: true; the input reads as it did. -/
def fnExactBadRollsSpec : ChangeSpec := { name := "fnExactBadRolls", fn := fun _ => fun
  | [d1, d2, d3] => { results := [.lit (.bool true)], args := [d1, d2, d3] }
  | _ => none }
def fnExactBadRollsRow : OpenClaim := { program := "ytodbgkflakfjpaa", sum := "fa8073bb6e4b55dd07021865573da552945f61a0e3ee92c6cc5704142d3823b7", func := "loop.example/paperrolls/laws.FnExactBadRolls", spec := "fnExactBadRolls", apart := false }
def FnExactBadRollsSaid : Prop := fnExactBadRollsRow.holds Try.pinned (OpenSpec.ofChange fnExactBadRollsSpec)

/-- ITS FALSE NEIGHBOUR: 'it returns false'. Refute it at one input. -/
def fnExactBadRollsWrong : ChangeSpec := { name := "fnExactBadRolls", fn := fun _ => fun
  | [d1, d2, d3] => { results := [.lit (.bool false)], args := [d1, d2, d3] }
  | _ => none }
def FnExactBadRollsWrongFalsely : Prop := fnExactBadRollsRow.holds Try.pinned (OpenSpec.ofChange fnExactBadRollsWrong)

/-- 'laws.FnExactSlitReel': WHATEVER THE INPUT: true; the input reads as it did. -/
def fnExactSlitReelSpec : ChangeSpec := { name := "fnExactSlitReel", fn := fun _ => fun
  | [d1, d2, d3, d4, d5] => { results := [.lit (.bool true)], args := [d1, d2, d3, d4, d5] }
  | _ => none }
def fnExactSlitReelRow : OpenClaim := { program := "ytodbgkflakfjpaa", sum := "fa8073bb6e4b55dd07021865573da552945f61a0e3ee92c6cc5704142d3823b7", func := "loop.example/paperrolls/laws.FnExactSlitReel", spec := "fnExactSlitReel", apart := false }
def FnExactSlitReelSaid : Prop := fnExactSlitReelRow.holds Try.pinned (OpenSpec.ofChange fnExactSlitReelSpec)

/-- ITS FALSE NEIGHBOUR: 'it returns false'. Refute it at one input. -/
def fnExactSlitReelWrong : ChangeSpec := { name := "fnExactSlitReel", fn := fun _ => fun
  | [d1, d2, d3, d4, d5] => { results := [.lit (.bool false)], args := [d1, d2, d3, d4, d5] }
  | _ => none }
def FnExactSlitReelWrongFalsely : Prop := fnExactSlitReelRow.holds Try.pinned (OpenSpec.ofChange fnExactSlitReelWrong)

/-- 'laws.FnExactRecallFrom': WHATEVER THE INPUT: true; the input reads as it did. -/
def fnExactRecallFromSpec : ChangeSpec := { name := "fnExactRecallFrom", fn := fun _ => fun
  | [d1, d2, d3, d4] => { results := [.lit (.bool true)], args := [d1, d2, d3, d4] }
  | _ => none }
def fnExactRecallFromRow : OpenClaim := { program := "ytodbgkflakfjpaa", sum := "fa8073bb6e4b55dd07021865573da552945f61a0e3ee92c6cc5704142d3823b7", func := "loop.example/paperrolls/laws.FnExactRecallFrom", spec := "fnExactRecallFrom", recurses := true, apart := false }
def FnExactRecallFromSaid : Prop := fnExactRecallFromRow.holds Try.pinned (OpenSpec.ofChange fnExactRecallFromSpec)

/-- ITS FALSE NEIGHBOUR: 'it returns false'. Refute it at one input. -/
def fnExactRecallFromWrong : ChangeSpec := { name := "fnExactRecallFrom", fn := fun _ => fun
  | [d1, d2, d3, d4] => { results := [.lit (.bool false)], args := [d1, d2, d3, d4] }
  | _ => none }
def FnExactRecallFromWrongFalsely : Prop := fnExactRecallFromRow.holds Try.pinned (OpenSpec.ofChange fnExactRecallFromWrong)

/-- 'laws.FnSlitReelKnives': WHATEVER THE INPUT: true; the input reads as it did. -/
def fnSlitReelKnivesSpec : ChangeSpec := { name := "fnSlitReelKnives", fn := fun _ => fun
  | [d] => { results := [.lit (.bool true)], args := [d] }
  | _ => none }
def fnSlitReelKnivesRow : OpenClaim := { program := "ytodbgkflakfjpaa", sum := "fa8073bb6e4b55dd07021865573da552945f61a0e3ee92c6cc5704142d3823b7", func := "loop.example/paperrolls/laws.FnSlitReelKnives", spec := "fnSlitReelKnives", apart := false }
def FnSlitReelKnivesSaid : Prop := fnSlitReelKnivesRow.holds Try.pinned (OpenSpec.ofChange fnSlitReelKnivesSpec)

/-- ITS FALSE NEIGHBOUR: 'it returns false'. Refute it at one input. -/
def fnSlitReelKnivesWrong : ChangeSpec := { name := "fnSlitReelKnives", fn := fun _ => fun
  | [d] => { results := [.lit (.bool false)], args := [d] }
  | _ => none }
def FnSlitReelKnivesWrongFalsely : Prop := fnSlitReelKnivesRow.holds Try.pinned (OpenSpec.ofChange fnSlitReelKnivesWrong)

/-- 'laws.FnSlitReel': WHATEVER THE INPUT: true; the input reads as it did. -/
def fnSlitReelSpec : ChangeSpec := { name := "fnSlitReel", fn := fun _ => fun
  | [d] => { results := [.lit (.bool true)], args := [d] }
  | _ => none }
def fnSlitReelRow : OpenClaim := { program := "ytodbgkflakfjpaa", sum := "fa8073bb6e4b55dd07021865573da552945f61a0e3ee92c6cc5704142d3823b7", func := "loop.example/paperrolls/laws.FnSlitReel", spec := "fnSlitReel", apart := false }
def FnSlitReelSaid : Prop := fnSlitReelRow.holds Try.pinned (OpenSpec.ofChange fnSlitReelSpec)

/-- ITS FALSE NEIGHBOUR: 'it returns false'. Refute it at one input. -/
def fnSlitReelWrong : ChangeSpec := { name := "fnSlitReel", fn := fun _ => fun
  | [d] => { results := [.lit (.bool false)], args := [d] }
  | _ => none }
def FnSlitReelWrongFalsely : Prop := fnSlitReelRow.holds Try.pinned (OpenSpec.ofChange fnSlitReelWrong)

/-- 'laws.FnBadRolls': WHATEVER THE INPUT: true; the input reads as it did. -/
def fnBadRollsSpec : ChangeSpec := { name := "fnBadRolls", fn := fun _ => fun
  | [d] => { results := [.lit (.bool true)], args := [d] }
  | _ => none }
def fnBadRollsRow : OpenClaim := { program := "ytodbgkflakfjpaa", sum := "fa8073bb6e4b55dd07021865573da552945f61a0e3ee92c6cc5704142d3823b7", func := "loop.example/paperrolls/laws.FnBadRolls", spec := "fnBadRolls", apart := false }
def FnBadRollsSaid : Prop := fnBadRollsRow.holds Try.pinned (OpenSpec.ofChange fnBadRollsSpec)

/-- ITS FALSE NEIGHBOUR: 'it returns false'. Refute it at one input. -/
def fnBadRollsWrong : ChangeSpec := { name := "fnBadRolls", fn := fun _ => fun
  | [d] => { results := [.lit (.bool false)], args := [d] }
  | _ => none }
def FnBadRollsWrongFalsely : Prop := fnBadRollsRow.holds Try.pinned (OpenSpec.ofChange fnBadRollsWrong)

/-- 'laws.FnRecallFrom': WHATEVER THE INPUT: true; the input reads as it did. -/
def fnRecallFromSpec : ChangeSpec := { name := "fnRecallFrom", fn := fun _ => fun
  | [d] => { results := [.lit (.bool true)], args := [d] }
  | _ => none }
def fnRecallFromRow : OpenClaim := { program := "ytodbgkflakfjpaa", sum := "fa8073bb6e4b55dd07021865573da552945f61a0e3ee92c6cc5704142d3823b7", func := "loop.example/paperrolls/laws.FnRecallFrom", spec := "fnRecallFrom", recurses := true, apart := false }
def FnRecallFromSaid : Prop := fnRecallFromRow.holds Try.pinned (OpenSpec.ofChange fnRecallFromSpec)

/-- ITS FALSE NEIGHBOUR: 'it returns false'. Refute it at one input. -/
def fnRecallFromWrong : ChangeSpec := { name := "fnRecallFrom", fn := fun _ => fun
  | [d] => { results := [.lit (.bool false)], args := [d] }
  | _ => none }
def FnRecallFromWrongFalsely : Prop := fnRecallFromRow.holds Try.pinned (OpenSpec.ofChange fnRecallFromWrong)

/-- 'laws.FnRecallFromMore': WHATEVER THE INPUT: true; the input reads as it did. -/
def fnRecallFromMoreSpec : ChangeSpec := { name := "fnRecallFromMore", fn := fun _ => fun
  | [d] => { results := [.lit (.bool true)], args := [d] }
  | _ => none }
def fnRecallFromMoreRow : OpenClaim := { program := "ytodbgkflakfjpaa", sum := "fa8073bb6e4b55dd07021865573da552945f61a0e3ee92c6cc5704142d3823b7", func := "loop.example/paperrolls/laws.FnRecallFromMore", spec := "fnRecallFromMore", recurses := true, apart := false }
def FnRecallFromMoreSaid : Prop := fnRecallFromMoreRow.holds Try.pinned (OpenSpec.ofChange fnRecallFromMoreSpec)

/-- ITS FALSE NEIGHBOUR: 'it returns false'. Refute it at one input. -/
def fnRecallFromMoreWrong : ChangeSpec := { name := "fnRecallFromMore", fn := fun _ => fun
  | [d] => { results := [.lit (.bool false)], args := [d] }
  | _ => none }
def FnRecallFromMoreWrongFalsely : Prop := fnRecallFromMoreRow.holds Try.pinned (OpenSpec.ofChange fnRecallFromMoreWrong)

/-- 'laws.FnExactValidMill': WHATEVER THE INPUT: true; the input reads as it did. -/
def fnExactValidMillSpec : ChangeSpec := { name := "fnExactValidMill", fn := fun _ => fun
  | [d] => { results := [.lit (.bool true)], args := [d] }
  | _ => none }
def fnExactValidMillRow : OpenClaim := { program := "ytodbgkflakfjpaa", sum := "fa8073bb6e4b55dd07021865573da552945f61a0e3ee92c6cc5704142d3823b7", func := "loop.example/paperrolls/laws.FnExactValidMill", spec := "fnExactValidMill", apart := false }
def FnExactValidMillSaid : Prop := fnExactValidMillRow.holds Try.pinned (OpenSpec.ofChange fnExactValidMillSpec)

/-- ITS FALSE NEIGHBOUR: 'it returns false'. Refute it at one input. -/
def fnExactValidMillWrong : ChangeSpec := { name := "fnExactValidMill", fn := fun _ => fun
  | [d] => { results := [.lit (.bool false)], args := [d] }
  | _ => none }
def FnExactValidMillWrongFalsely : Prop := fnExactValidMillRow.holds Try.pinned (OpenSpec.ofChange fnExactValidMillWrong)

/-- 'laws.FnExactAreaHeld': WHATEVER THE INPUT: true; the input reads as it did. -/
def fnExactAreaHeldSpec : ChangeSpec := { name := "fnExactAreaHeld", fn := fun _ => fun
  | [d] => { results := [.lit (.bool true)], args := [d] }
  | _ => none }
def fnExactAreaHeldRow : OpenClaim := { program := "ytodbgkflakfjpaa", sum := "fa8073bb6e4b55dd07021865573da552945f61a0e3ee92c6cc5704142d3823b7", func := "loop.example/paperrolls/laws.FnExactAreaHeld", spec := "fnExactAreaHeld", apart := false }
def FnExactAreaHeldSaid : Prop := fnExactAreaHeldRow.holds Try.pinned (OpenSpec.ofChange fnExactAreaHeldSpec)

/-- ITS FALSE NEIGHBOUR: 'it returns false'. Refute it at one input. -/
def fnExactAreaHeldWrong : ChangeSpec := { name := "fnExactAreaHeld", fn := fun _ => fun
  | [d] => { results := [.lit (.bool false)], args := [d] }
  | _ => none }
def FnExactAreaHeldWrongFalsely : Prop := fnExactAreaHeldRow.holds Try.pinned (OpenSpec.ofChange fnExactAreaHeldWrong)

/- THE SECOND FORM. 'bulk': how many values and letters a reading holds, each counted each time it is reached (what is shared counts as often as it is met; a slice's spare places count too). A statement '..UptoSaid' is the law's where the arguments, and the package variables that the reading takes, are together of bulk at most 1048576: NARROWER than '..Said'. Prove '..Said' where nothing that the law and all that it calls make is longer than what came in: it says more and counts as full. Else prove '..UptoSaid'. A law counts once. -/
mutual
def uptoBulk {H : Type} : DataW H → Nat
  | .lit (.string bytes) => bytes.length + 1
  | .lit _ => 1
  | .nil => 1
  | .ptr d => uptoBulk d + 1
  | .slice elems spare => uptoBulkAll elems + uptoBulkAll spare + 1
  | .agg parts => uptoBulkAll parts + 1
  | .iface _ d => uptoBulk d + 1
  | .map entries => uptoBulkEntries entries + 1
  | .held _ => 1
def uptoBulkAll {H : Type} : List (DataW H) → Nat
  | [] => 0
  | d :: r => uptoBulk d + uptoBulkAll r
def uptoBulkEntries {H : Type} : List (Lit × DataW H) → Nat
  | [] => 0
  | x :: r => uptoBulkEntry x + uptoBulkEntries r
def uptoBulkEntry {H : Type} : Lit × DataW H → Nat
  | (.string bytes, d) => bytes.length + uptoBulk d + 1
  | (_, d) => uptoBulk d + 1
 end
def uptoSmall : (H : Type) → List (DataW H) → Bool := fun _ ds => decide (uptoBulkAll ds ≤ 1048576)
def OpenSpec.upto (s : _root_.Go.ChangeSpec) : _root_.Go.OpenSpec := { _root_.Go.OpenSpec.ofChange s with cond := some uptoSmall }

/-- 'laws.FnExactGoodStretches', WHERE WHAT IT READS IS OF BULK AT MOST 1048576: true; the input reads as it did. -/
def fnExactGoodStretchesUptoRow : OpenClaim := { program := "ytodbgkflakfjpaa", sum := "fa8073bb6e4b55dd07021865573da552945f61a0e3ee92c6cc5704142d3823b7", func := "loop.example/paperrolls/laws.FnExactGoodStretches", spec := "fnExactGoodStretches", apart := false, narrowed := true }
def FnExactGoodStretchesUptoSaid : Prop := fnExactGoodStretchesUptoRow.holds Try.pinned (OpenSpec.upto fnExactGoodStretchesSpec)

/-- 'laws.FnExactRollsWith', WHERE WHAT IT READS IS OF BULK AT MOST 1048576: true; the input reads as it did. -/
def fnExactRollsWithUptoRow : OpenClaim := { program := "ytodbgkflakfjpaa", sum := "fa8073bb6e4b55dd07021865573da552945f61a0e3ee92c6cc5704142d3823b7", func := "loop.example/paperrolls/laws.FnExactRollsWith", spec := "fnExactRollsWith", apart := false, narrowed := true }
def FnExactRollsWithUptoSaid : Prop := fnExactRollsWithUptoRow.holds Try.pinned (OpenSpec.upto fnExactRollsWithSpec)

/-- 'laws.FnExactBadRolls', WHERE WHAT IT READS IS OF BULK AT MOST 1048576: true; the input reads as it did. -/
def fnExactBadRollsUptoRow : OpenClaim := { program := "ytodbgkflakfjpaa", sum := "fa8073bb6e4b55dd07021865573da552945f61a0e3ee92c6cc5704142d3823b7", func := "loop.example/paperrolls/laws.FnExactBadRolls", spec := "fnExactBadRolls", apart := false, narrowed := true }
def FnExactBadRollsUptoSaid : Prop := fnExactBadRollsUptoRow.holds Try.pinned (OpenSpec.upto fnExactBadRollsSpec)

/-- 'laws.FnExactSlitReel', WHERE WHAT IT READS IS OF BULK AT MOST 1048576: true; the input reads as it did. -/
def fnExactSlitReelUptoRow : OpenClaim := { program := "ytodbgkflakfjpaa", sum := "fa8073bb6e4b55dd07021865573da552945f61a0e3ee92c6cc5704142d3823b7", func := "loop.example/paperrolls/laws.FnExactSlitReel", spec := "fnExactSlitReel", apart := false, narrowed := true }
def FnExactSlitReelUptoSaid : Prop := fnExactSlitReelUptoRow.holds Try.pinned (OpenSpec.upto fnExactSlitReelSpec)

/-- 'laws.FnExactRecallFrom', WHERE WHAT IT READS IS OF BULK AT MOST 1048576: true; the input reads as it did. -/
def fnExactRecallFromUptoRow : OpenClaim := { program := "ytodbgkflakfjpaa", sum := "fa8073bb6e4b55dd07021865573da552945f61a0e3ee92c6cc5704142d3823b7", func := "loop.example/paperrolls/laws.FnExactRecallFrom", spec := "fnExactRecallFrom", recurses := true, apart := false, narrowed := true }
def FnExactRecallFromUptoSaid : Prop := fnExactRecallFromUptoRow.holds Try.pinned (OpenSpec.upto fnExactRecallFromSpec)

/-- 'laws.FnSlitReelKnives', WHERE WHAT IT READS IS OF BULK AT MOST 1048576: true; the input reads as it did. -/
def fnSlitReelKnivesUptoRow : OpenClaim := { program := "ytodbgkflakfjpaa", sum := "fa8073bb6e4b55dd07021865573da552945f61a0e3ee92c6cc5704142d3823b7", func := "loop.example/paperrolls/laws.FnSlitReelKnives", spec := "fnSlitReelKnives", apart := false, narrowed := true }
def FnSlitReelKnivesUptoSaid : Prop := fnSlitReelKnivesUptoRow.holds Try.pinned (OpenSpec.upto fnSlitReelKnivesSpec)

/-- 'laws.FnSlitReel', WHERE WHAT IT READS IS OF BULK AT MOST 1048576: true; the input reads as it did. -/
def fnSlitReelUptoRow : OpenClaim := { program := "ytodbgkflakfjpaa", sum := "fa8073bb6e4b55dd07021865573da552945f61a0e3ee92c6cc5704142d3823b7", func := "loop.example/paperrolls/laws.FnSlitReel", spec := "fnSlitReel", apart := false, narrowed := true }
def FnSlitReelUptoSaid : Prop := fnSlitReelUptoRow.holds Try.pinned (OpenSpec.upto fnSlitReelSpec)

/-- 'laws.FnBadRolls', WHERE WHAT IT READS IS OF BULK AT MOST 1048576: true; the input reads as it did. -/
def fnBadRollsUptoRow : OpenClaim := { program := "ytodbgkflakfjpaa", sum := "fa8073bb6e4b55dd07021865573da552945f61a0e3ee92c6cc5704142d3823b7", func := "loop.example/paperrolls/laws.FnBadRolls", spec := "fnBadRolls", apart := false, narrowed := true }
def FnBadRollsUptoSaid : Prop := fnBadRollsUptoRow.holds Try.pinned (OpenSpec.upto fnBadRollsSpec)

/-- 'laws.FnRecallFrom', WHERE WHAT IT READS IS OF BULK AT MOST 1048576: true; the input reads as it did. -/
def fnRecallFromUptoRow : OpenClaim := { program := "ytodbgkflakfjpaa", sum := "fa8073bb6e4b55dd07021865573da552945f61a0e3ee92c6cc5704142d3823b7", func := "loop.example/paperrolls/laws.FnRecallFrom", spec := "fnRecallFrom", recurses := true, apart := false, narrowed := true }
def FnRecallFromUptoSaid : Prop := fnRecallFromUptoRow.holds Try.pinned (OpenSpec.upto fnRecallFromSpec)

/-- 'laws.FnRecallFromMore', WHERE WHAT IT READS IS OF BULK AT MOST 1048576: true; the input reads as it did. -/
def fnRecallFromMoreUptoRow : OpenClaim := { program := "ytodbgkflakfjpaa", sum := "fa8073bb6e4b55dd07021865573da552945f61a0e3ee92c6cc5704142d3823b7", func := "loop.example/paperrolls/laws.FnRecallFromMore", spec := "fnRecallFromMore", recurses := true, apart := false, narrowed := true }
def FnRecallFromMoreUptoSaid : Prop := fnRecallFromMoreUptoRow.holds Try.pinned (OpenSpec.upto fnRecallFromMoreSpec)

/-- 'laws.FnExactValidMill', WHERE WHAT IT READS IS OF BULK AT MOST 1048576: true; the input reads as it did. -/
def fnExactValidMillUptoRow : OpenClaim := { program := "ytodbgkflakfjpaa", sum := "fa8073bb6e4b55dd07021865573da552945f61a0e3ee92c6cc5704142d3823b7", func := "loop.example/paperrolls/laws.FnExactValidMill", spec := "fnExactValidMill", apart := false, narrowed := true }
def FnExactValidMillUptoSaid : Prop := fnExactValidMillUptoRow.holds Try.pinned (OpenSpec.upto fnExactValidMillSpec)

/-- 'laws.FnExactAreaHeld', WHERE WHAT IT READS IS OF BULK AT MOST 1048576: true; the input reads as it did. -/
def fnExactAreaHeldUptoRow : OpenClaim := { program := "ytodbgkflakfjpaa", sum := "fa8073bb6e4b55dd07021865573da552945f61a0e3ee92c6cc5704142d3823b7", func := "loop.example/paperrolls/laws.FnExactAreaHeld", spec := "fnExactAreaHeld", apart := false, narrowed := true }
def FnExactAreaHeldUptoSaid : Prop := fnExactAreaHeldUptoRow.holds Try.pinned (OpenSpec.upto fnExactAreaHeldSpec)

end Rows
end Go.Proofs.Ytodbgkflakfjpaa
