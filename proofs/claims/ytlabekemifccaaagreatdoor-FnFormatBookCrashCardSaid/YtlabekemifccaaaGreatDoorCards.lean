/-
  DERIVED. GIVEN WITH THE SEED: THE CARDS: each row of YtlabekemifccaaaGreatDoorRows.lean that lists a variable, with what it lists TIED to the program's text (the seventh form; the later family's looks); each row that meets fmt, with fmt's text TOLD by the authors' own Lean function (tested against real Go, not proved from fmt's source: count such statements apart). THE CARD IS WHAT COUNTS. Prove the row's statement (the work); the ties are given (YtlabekemifccaaaGreatDoorTie.lean); close each card by the builder's one call (the guide's Derived/Test/ToyasCard.lean, 'card_holds'). Laid BY PROGRAM, IN A SANDBOX (cutbox-door.mjs). By AI agents, Wed Nov 11 2026. No macro, syntax, notation, axiom, sorry.
-/
import Derived.Test.YtlabekemifccaaaGreatDoorRows
import GoSem.ClaimSeven
namespace Go.Proofs.YtlabekemifccaaaGreatDoor
namespace Rows

/-- THE TIED CARD OF 'laws.FnFormatBook'. -/
def fnFormatBookCard : Claim7 := { stood := { row := fnFormatBookRow, standIns := [], harness := (true, "5bc0f66cc0419aaa9ad25af62492ac3d78e88c969cee532d57786f91857bd041"), looks := false }, kinds := [], alts := [], laidByText := true, laidKinds := [.data, .data, .data, .data, .pinned], laidTests := true, laidLooks := .later }
def FnFormatBookCardSaid : Prop := Claim7.holds Tryz.pinned (.plain (OpenSpec.ofChange fnFormatBookSpec)) fnFormatBookCard

/-- THE TIED CARD OF 'laws.FnFormatBookCrash'. -/
def fnFormatBookCrashCard : Claim7 := { stood := { row := fnFormatBookCrashRow, standIns := [], harness := (true, "5bc0f66cc0419aaa9ad25af62492ac3d78e88c969cee532d57786f91857bd041"), looks := false }, kinds := [], alts := [], laidByText := true, laidKinds := [.data, .data, .data, .data, .pinned], laidTests := true, laidLooks := .later }
def FnFormatBookCrashCardSaid : Prop := Claim7.holds Tryz.pinned (.plain (OpenSpec.ofChange fnFormatBookCrashSpec)) fnFormatBookCrashCard

/-- THE SECOND FORM's CARD OF 'laws.FnFormatBook'. -/
def fnFormatBookUptoCard : Claim7 := { stood := { row := fnFormatBookUptoRow, standIns := [], harness := (true, "5bc0f66cc0419aaa9ad25af62492ac3d78e88c969cee532d57786f91857bd041"), looks := false }, kinds := [], alts := [], laidByText := true, laidKinds := [.data, .data, .data, .data, .pinned], laidTests := true, laidLooks := .later }
def FnFormatBookUptoCardSaid : Prop := Claim7.holds Tryz.pinned (.plain (OpenSpec.upto fnFormatBookSpec)) fnFormatBookUptoCard

/-- THE SECOND FORM's CARD OF 'laws.FnFormatBookCrash'. -/
def fnFormatBookCrashUptoCard : Claim7 := { stood := { row := fnFormatBookCrashUptoRow, standIns := [], harness := (true, "5bc0f66cc0419aaa9ad25af62492ac3d78e88c969cee532d57786f91857bd041"), looks := false }, kinds := [], alts := [], laidByText := true, laidKinds := [.data, .data, .data, .data, .pinned], laidTests := true, laidLooks := .later }
def FnFormatBookCrashUptoCardSaid : Prop := Claim7.holds Tryz.pinned (.plain (OpenSpec.upto fnFormatBookCrashSpec)) fnFormatBookCrashUptoCard
end Rows
end Go.Proofs.YtlabekemifccaaaGreatDoor
