/-
  DERIVED. GIVEN WITH THE SEED: THE CARDS: each row of YtlabekemifccaaaDoorRows.lean that lists a variable, with what it lists TIED to the program's text (the seventh form; the later family's looks); each row that meets fmt, with fmt's text TOLD by the authors' own Lean function (tested against real Go, not proved from fmt's source: count such statements apart). THE CARD IS WHAT COUNTS. Prove the row's statement (the work); the ties are given (YtlabekemifccaaaDoorTie.lean); close each card by the builder's one call (the guide's Derived/Test/ToyasCard.lean, 'card_holds'). Laid BY PROGRAM, IN A SANDBOX (cutbox-door.mjs). By AI agents, Wed Nov 11 2026. No macro, syntax, notation, axiom, sorry.
-/
import Derived.Test.YtlabekemifccaaaDoorRows
import GoSem.ClaimSeven
namespace Go.Proofs.YtlabekemifccaaaDoor
namespace Rows

/-- THE TIED CARD OF 'laws.FnExactFormatEvent'. -/
def fnExactFormatEventCard : Claim7 := { stood := { row := fnExactFormatEventRow, standIns := [], harness := (true, "25db02159199c653d5e606e4ff5faa897f7fcc33d237d5081a9d8c1a2c83c9ed"), looks := false }, kinds := [], alts := [], laidByText := true, laidKinds := [.data, .data, .data], laidTests := true, laidLooks := .later }
def FnExactFormatEventCardSaid : Prop := Claim7.holds Tryd.pinned (.plain (OpenSpec.ofChange fnExactFormatEventSpec)) fnExactFormatEventCard

/-- THE TIED CARD OF 'laws.FnExactParseEvent'. -/
def fnExactParseEventCard : Claim7 := { stood := { row := fnExactParseEventRow, standIns := [], harness := (true, "25db02159199c653d5e606e4ff5faa897f7fcc33d237d5081a9d8c1a2c83c9ed"), looks := false }, kinds := [], alts := [], laidByText := true, laidKinds := [.data, .pinned], laidTests := true, laidLooks := .later }
def FnExactParseEventCardSaid : Prop := Claim7.holds Tryd.pinned (.plain (OpenSpec.ofChange fnExactParseEventSpec)) fnExactParseEventCard

/-- THE TIED CARD OF 'laws.FnExactFormatBook'. -/
def fnExactFormatBookCard : Claim7 := { stood := { row := fnExactFormatBookRow, standIns := [], harness := (true, "25db02159199c653d5e606e4ff5faa897f7fcc33d237d5081a9d8c1a2c83c9ed"), looks := false }, kinds := [], alts := [], laidByText := true, laidKinds := [.data, .data, .data], laidTests := true, laidLooks := .later }
def FnExactFormatBookCardSaid : Prop := Claim7.holds Tryd.pinned (.plain (OpenSpec.ofChange fnExactFormatBookSpec)) fnExactFormatBookCard

/-- THE TIED CARD OF 'laws.FnExactRecoverBook'. -/
def fnExactRecoverBookCard : Claim7 := { stood := { row := fnExactRecoverBookRow, standIns := [], harness := (true, "25db02159199c653d5e606e4ff5faa897f7fcc33d237d5081a9d8c1a2c83c9ed"), looks := false }, kinds := [], alts := [], laidByText := true, laidKinds := [.data, .pinned], laidTests := true, laidLooks := .later }
def FnExactRecoverBookCardSaid : Prop := Claim7.holds Tryd.pinned (.plain (OpenSpec.ofChange fnExactRecoverBookSpec)) fnExactRecoverBookCard

/-- THE TIED CARD OF 'laws.FnFormatEvent'. -/
def fnFormatEventCard : Claim7 := { stood := { row := fnFormatEventRow, standIns := [], harness := (true, "25db02159199c653d5e606e4ff5faa897f7fcc33d237d5081a9d8c1a2c83c9ed"), looks := false }, kinds := [], alts := [], laidByText := true, laidKinds := [.data, .data, .data, .data, .pinned], laidTests := true, laidLooks := .later }
def FnFormatEventCardSaid : Prop := Claim7.holds Tryd.pinned (.plain (OpenSpec.ofChange fnFormatEventSpec)) fnFormatEventCard

/-- THE TIED CARD OF 'laws.FnParseEvent'. -/
def fnParseEventCard : Claim7 := { stood := { row := fnParseEventRow, standIns := [], harness := (true, "25db02159199c653d5e606e4ff5faa897f7fcc33d237d5081a9d8c1a2c83c9ed"), looks := false }, kinds := [], alts := [], laidByText := true, laidKinds := [.data, .data, .data, .data, .pinned], laidTests := true, laidLooks := .later }
def FnParseEventCardSaid : Prop := Claim7.holds Tryd.pinned (.plain (OpenSpec.ofChange fnParseEventSpec)) fnParseEventCard

/-- THE TIED CARD OF 'laws.FnRecoverBook'. -/
def fnRecoverBookCard : Claim7 := { stood := { row := fnRecoverBookRow, standIns := [], harness := (true, "25db02159199c653d5e606e4ff5faa897f7fcc33d237d5081a9d8c1a2c83c9ed"), looks := false }, kinds := [], alts := [], laidByText := true, laidKinds := [.data, .data, .data, .data, .pinned], laidTests := true, laidLooks := .later }
def FnRecoverBookCardSaid : Prop := Claim7.holds Tryd.pinned (.plain (OpenSpec.ofChange fnRecoverBookSpec)) fnRecoverBookCard

/-- THE TIED CARD OF 'laws.FnFormatEventSame'. -/
def fnFormatEventSameCard : Claim7 := { stood := { row := fnFormatEventSameRow, standIns := [], harness := (true, "25db02159199c653d5e606e4ff5faa897f7fcc33d237d5081a9d8c1a2c83c9ed"), looks := false }, kinds := [], alts := [], laidByText := true, laidKinds := [.data, .data, .data, .data, .pinned], laidTests := true, laidLooks := .later }
def FnFormatEventSameCardSaid : Prop := Claim7.holds Tryd.pinned (.plain (OpenSpec.ofChange fnFormatEventSameSpec)) fnFormatEventSameCard

/-- THE SECOND FORM's CARD OF 'laws.FnExactFormatEvent'. -/
def fnExactFormatEventUptoCard : Claim7 := { stood := { row := fnExactFormatEventUptoRow, standIns := [], harness := (true, "25db02159199c653d5e606e4ff5faa897f7fcc33d237d5081a9d8c1a2c83c9ed"), looks := false }, kinds := [], alts := [], laidByText := true, laidKinds := [.data, .data, .data], laidTests := true, laidLooks := .later }
def FnExactFormatEventUptoCardSaid : Prop := Claim7.holds Tryd.pinned (.plain (OpenSpec.upto fnExactFormatEventSpec)) fnExactFormatEventUptoCard

/-- THE SECOND FORM's CARD OF 'laws.FnExactParseEvent'. -/
def fnExactParseEventUptoCard : Claim7 := { stood := { row := fnExactParseEventUptoRow, standIns := [], harness := (true, "25db02159199c653d5e606e4ff5faa897f7fcc33d237d5081a9d8c1a2c83c9ed"), looks := false }, kinds := [], alts := [], laidByText := true, laidKinds := [.data, .pinned], laidTests := true, laidLooks := .later }
def FnExactParseEventUptoCardSaid : Prop := Claim7.holds Tryd.pinned (.plain (OpenSpec.upto fnExactParseEventSpec)) fnExactParseEventUptoCard

/-- THE SECOND FORM's CARD OF 'laws.FnExactFormatBook'. -/
def fnExactFormatBookUptoCard : Claim7 := { stood := { row := fnExactFormatBookUptoRow, standIns := [], harness := (true, "25db02159199c653d5e606e4ff5faa897f7fcc33d237d5081a9d8c1a2c83c9ed"), looks := false }, kinds := [], alts := [], laidByText := true, laidKinds := [.data, .data, .data], laidTests := true, laidLooks := .later }
def FnExactFormatBookUptoCardSaid : Prop := Claim7.holds Tryd.pinned (.plain (OpenSpec.upto fnExactFormatBookSpec)) fnExactFormatBookUptoCard

/-- THE SECOND FORM's CARD OF 'laws.FnExactRecoverBook'. -/
def fnExactRecoverBookUptoCard : Claim7 := { stood := { row := fnExactRecoverBookUptoRow, standIns := [], harness := (true, "25db02159199c653d5e606e4ff5faa897f7fcc33d237d5081a9d8c1a2c83c9ed"), looks := false }, kinds := [], alts := [], laidByText := true, laidKinds := [.data, .pinned], laidTests := true, laidLooks := .later }
def FnExactRecoverBookUptoCardSaid : Prop := Claim7.holds Tryd.pinned (.plain (OpenSpec.upto fnExactRecoverBookSpec)) fnExactRecoverBookUptoCard

/-- THE SECOND FORM's CARD OF 'laws.FnFormatEvent'. -/
def fnFormatEventUptoCard : Claim7 := { stood := { row := fnFormatEventUptoRow, standIns := [], harness := (true, "25db02159199c653d5e606e4ff5faa897f7fcc33d237d5081a9d8c1a2c83c9ed"), looks := false }, kinds := [], alts := [], laidByText := true, laidKinds := [.data, .data, .data, .data, .pinned], laidTests := true, laidLooks := .later }
def FnFormatEventUptoCardSaid : Prop := Claim7.holds Tryd.pinned (.plain (OpenSpec.upto fnFormatEventSpec)) fnFormatEventUptoCard

/-- THE SECOND FORM's CARD OF 'laws.FnParseEvent'. -/
def fnParseEventUptoCard : Claim7 := { stood := { row := fnParseEventUptoRow, standIns := [], harness := (true, "25db02159199c653d5e606e4ff5faa897f7fcc33d237d5081a9d8c1a2c83c9ed"), looks := false }, kinds := [], alts := [], laidByText := true, laidKinds := [.data, .data, .data, .data, .pinned], laidTests := true, laidLooks := .later }
def FnParseEventUptoCardSaid : Prop := Claim7.holds Tryd.pinned (.plain (OpenSpec.upto fnParseEventSpec)) fnParseEventUptoCard

/-- THE SECOND FORM's CARD OF 'laws.FnRecoverBook'. -/
def fnRecoverBookUptoCard : Claim7 := { stood := { row := fnRecoverBookUptoRow, standIns := [], harness := (true, "25db02159199c653d5e606e4ff5faa897f7fcc33d237d5081a9d8c1a2c83c9ed"), looks := false }, kinds := [], alts := [], laidByText := true, laidKinds := [.data, .data, .data, .data, .pinned], laidTests := true, laidLooks := .later }
def FnRecoverBookUptoCardSaid : Prop := Claim7.holds Tryd.pinned (.plain (OpenSpec.upto fnRecoverBookSpec)) fnRecoverBookUptoCard

/-- THE SECOND FORM's CARD OF 'laws.FnFormatEventSame'. -/
def fnFormatEventSameUptoCard : Claim7 := { stood := { row := fnFormatEventSameUptoRow, standIns := [], harness := (true, "25db02159199c653d5e606e4ff5faa897f7fcc33d237d5081a9d8c1a2c83c9ed"), looks := false }, kinds := [], alts := [], laidByText := true, laidKinds := [.data, .data, .data, .data, .pinned], laidTests := true, laidLooks := .later }
def FnFormatEventSameUptoCardSaid : Prop := Claim7.holds Tryd.pinned (.plain (OpenSpec.upto fnFormatEventSameSpec)) fnFormatEventSameUptoCard
end Rows
end Go.Proofs.YtlabekemifccaaaDoor
