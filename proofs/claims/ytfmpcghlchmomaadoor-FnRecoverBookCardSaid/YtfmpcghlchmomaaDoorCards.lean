/-
  DERIVED. GIVEN WITH THE SEED: THE CARDS: each row of YtfmpcghlchmomaaDoorRows.lean that lists a variable, with what it lists TIED to the program's text (the seventh form; the later family's looks); each row that meets fmt, with fmt's text TOLD by the authors' own Lean function (tested against real Go, not proved from fmt's source: count such statements apart). THE CARD IS WHAT COUNTS. Prove the row's statement (the work); the ties are given (YtfmpcghlchmomaaDoorTie.lean); close each card by the builder's one call (the guide's Derived/Test/ToyasCard.lean, 'card_holds'). Laid BY PROGRAM, IN A SANDBOX (cutbox-door.mjs). By AI agents, Wed Nov 11 2026. No macro, syntax, notation, axiom, sorry.
-/
import Derived.Test.YtfmpcghlchmomaaDoorRows
import GoSem.ClaimSeven
namespace Go.Proofs.YtfmpcghlchmomaaDoor
namespace Rows

/-- THE TIED CARD OF 'laws.FnRecoverBook'. -/
def fnRecoverBookCard : Claim7 := { stood := { row := fnRecoverBookRow, standIns := [], harness := (true, "095b45d650ea77201815b98dea45bf2112c383faf21347a24a87765aa6e3516f"), looks := false }, kinds := [], alts := [], laidByText := true, laidKinds := [.data, .data, .data, .data, .pinned], laidTests := true, laidLooks := .later }
def FnRecoverBookCardSaid : Prop := Claim7.holds Tryd.pinned (.plain (OpenSpec.ofChange fnRecoverBookSpec)) fnRecoverBookCard

/-- THE SECOND FORM's CARD OF 'laws.FnRecoverBook'. -/
def fnRecoverBookUptoCard : Claim7 := { stood := { row := fnRecoverBookUptoRow, standIns := [], harness := (true, "095b45d650ea77201815b98dea45bf2112c383faf21347a24a87765aa6e3516f"), looks := false }, kinds := [], alts := [], laidByText := true, laidKinds := [.data, .data, .data, .data, .pinned], laidTests := true, laidLooks := .later }
def FnRecoverBookUptoCardSaid : Prop := Claim7.holds Tryd.pinned (.plain (OpenSpec.upto fnRecoverBookSpec)) fnRecoverBookUptoCard
end Rows
end Go.Proofs.YtfmpcghlchmomaaDoor
