/-
  DERIVED. GIVEN WITH THE SEED: THE CARDS: each row of YtkgepklapglmdaaGreatDoorRows.lean that lists a variable, with what it lists TIED to the program's text (the seventh form; the later family's looks); each row that meets fmt, with fmt's text TOLD by the authors' own Lean function (tested against real Go, not proved from fmt's source: count such statements apart). THE CARD IS WHAT COUNTS. Prove the row's statement (the work); the ties are given (YtkgepklapglmdaaGreatDoorTie.lean); close each card by the builder's one call (the guide's Derived/Test/ToyasCard.lean, 'card_holds'). Laid BY PROGRAM, IN A SANDBOX (cutbox-door.mjs). By AI agents, Wed Nov 11 2026. No macro, syntax, notation, axiom, sorry.
-/
import Derived.Test.YtkgepklapglmdaaGreatDoorRows
import GoSem.ClaimSeven
namespace Go.Proofs.YtkgepklapglmdaaGreatDoor
namespace Rows

/-- THE TIED CARD OF 'laws.FnPlanCutsBook'. -/
def fnPlanCutsBookCard : Claim7 := { stood := { row := fnPlanCutsBookRow, standIns := [], harness := (true, "5cff22456f4b4f030cc9a635979700ed0049ea279b3673333d45512e16b22871"), looks := false }, kinds := [], alts := [], laidByText := true, laidKinds := [.data, .data, .data, .data, .pinned], laidTests := true, laidLooks := .later }
def FnPlanCutsBookCardSaid : Prop := Claim7.holds Tryz.pinned (.plain (OpenSpec.ofChange fnPlanCutsBookSpec)) fnPlanCutsBookCard

/-- THE TIED CARD OF 'laws.FnExactRunDesk'. -/
def fnExactRunDeskCard : Claim7 := { stood := { row := fnExactRunDeskRow, standIns := [], harness := (true, "5cff22456f4b4f030cc9a635979700ed0049ea279b3673333d45512e16b22871"), looks := false }, kinds := [], alts := [], laidByText := true, laidKinds := [.data, .data, .data, .data, .pinned], laidTests := true, laidLooks := .later }
def FnExactRunDeskCardSaid : Prop := Claim7.holds Tryz.pinned (.plain (OpenSpec.ofChange fnExactRunDeskSpec)) fnExactRunDeskCard

/-- THE TIED CARD OF 'laws.FnRunDesk'. -/
def fnRunDeskCard : Claim7 := { stood := { row := fnRunDeskRow, standIns := [], harness := (true, "5cff22456f4b4f030cc9a635979700ed0049ea279b3673333d45512e16b22871"), looks := false }, kinds := [], alts := [], laidByText := true, laidKinds := [.data, .data, .data, .data, .pinned], laidTests := true, laidLooks := .later }
def FnRunDeskCardSaid : Prop := Claim7.holds Tryz.pinned (.plain (OpenSpec.ofChange fnRunDeskSpec)) fnRunDeskCard

/-- THE TIED CARD OF 'laws.FnRunDeskRolls'. -/
def fnRunDeskRollsCard : Claim7 := { stood := { row := fnRunDeskRollsRow, standIns := [], harness := (true, "5cff22456f4b4f030cc9a635979700ed0049ea279b3673333d45512e16b22871"), looks := false }, kinds := [], alts := [], laidByText := true, laidKinds := [.data, .data, .data, .data, .pinned], laidTests := true, laidLooks := .later }
def FnRunDeskRollsCardSaid : Prop := Claim7.holds Tryz.pinned (.plain (OpenSpec.ofChange fnRunDeskRollsSpec)) fnRunDeskRollsCard

/-- THE SECOND FORM's CARD OF 'laws.FnPlanCutsBook'. -/
def fnPlanCutsBookUptoCard : Claim7 := { stood := { row := fnPlanCutsBookUptoRow, standIns := [], harness := (true, "5cff22456f4b4f030cc9a635979700ed0049ea279b3673333d45512e16b22871"), looks := false }, kinds := [], alts := [], laidByText := true, laidKinds := [.data, .data, .data, .data, .pinned], laidTests := true, laidLooks := .later }
def FnPlanCutsBookUptoCardSaid : Prop := Claim7.holds Tryz.pinned (.plain (OpenSpec.upto fnPlanCutsBookSpec)) fnPlanCutsBookUptoCard

/-- THE SECOND FORM's CARD OF 'laws.FnExactRunDesk'. -/
def fnExactRunDeskUptoCard : Claim7 := { stood := { row := fnExactRunDeskUptoRow, standIns := [], harness := (true, "5cff22456f4b4f030cc9a635979700ed0049ea279b3673333d45512e16b22871"), looks := false }, kinds := [], alts := [], laidByText := true, laidKinds := [.data, .data, .data, .data, .pinned], laidTests := true, laidLooks := .later }
def FnExactRunDeskUptoCardSaid : Prop := Claim7.holds Tryz.pinned (.plain (OpenSpec.upto fnExactRunDeskSpec)) fnExactRunDeskUptoCard

/-- THE SECOND FORM's CARD OF 'laws.FnRunDesk'. -/
def fnRunDeskUptoCard : Claim7 := { stood := { row := fnRunDeskUptoRow, standIns := [], harness := (true, "5cff22456f4b4f030cc9a635979700ed0049ea279b3673333d45512e16b22871"), looks := false }, kinds := [], alts := [], laidByText := true, laidKinds := [.data, .data, .data, .data, .pinned], laidTests := true, laidLooks := .later }
def FnRunDeskUptoCardSaid : Prop := Claim7.holds Tryz.pinned (.plain (OpenSpec.upto fnRunDeskSpec)) fnRunDeskUptoCard

/-- THE SECOND FORM's CARD OF 'laws.FnRunDeskRolls'. -/
def fnRunDeskRollsUptoCard : Claim7 := { stood := { row := fnRunDeskRollsUptoRow, standIns := [], harness := (true, "5cff22456f4b4f030cc9a635979700ed0049ea279b3673333d45512e16b22871"), looks := false }, kinds := [], alts := [], laidByText := true, laidKinds := [.data, .data, .data, .data, .pinned], laidTests := true, laidLooks := .later }
def FnRunDeskRollsUptoCardSaid : Prop := Claim7.holds Tryz.pinned (.plain (OpenSpec.upto fnRunDeskRollsSpec)) fnRunDeskRollsUptoCard
end Rows
end Go.Proofs.YtkgepklapglmdaaGreatDoor
