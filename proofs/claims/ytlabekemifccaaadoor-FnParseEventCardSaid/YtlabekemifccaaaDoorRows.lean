/-
  NARROWER THAN 'FOR EVERY INPUT', by the rows' own cells (each row's printed sentence says how): FnExactFormatEvent: laid · FnExactParseEvent: laid · FnExactFormatBook: laid · FnExactRecoverBook: laid · FnFormatEvent: laid · FnParseEvent: laid · FnRecoverBook: laid · FnFormatEventSame: laid.
  DERIVED. THE GIVEN ROWS OF THIS SEAT. 8 by the template 'for every input the law returns true; each argument reads behind the call as it read before'; 0 by the template 'total and deterministic' (their statements: YtlabekemifccaaaDoorTotals.lean).
  GIVEN WITH THE SEED: the statements are not yours to turn. If you find one false, say at which input.
  Laid BY PROGRAM, IN A SANDBOX (cutbox-rows.mjs): the forced cells as the released guide's own fill.sh prints them over the translation 280547b7155833ec… (all of the seat's roots in one cut). By AI agents, Wed Nov 11 2026. No macro, syntax, notation, axiom, sorry.
-/
import Derived.Test.YtlabekemifccaaaDoorChecked
import GoSem.PinnedTables
import GoSem.Claim
import GoSem.ClaimJoined
import GoSem.ClaimMapViews
import Derived.JoinedTies
import Derived.KernelRfl
namespace Go.Proofs.YtlabekemifccaaaDoor
/- THE CELL 'sum', in the pinned program and in every row, IS THE sha256 OF THE DUMP (.gsa) THAT YtlabekemifccaaaDoorProg.lean LOADS. Nothing in Lean hashes anything: it is a label: what it is worth is what the hold of that sum in a sandbox is worth. -/
noncomputable def Tryd.pinned : Pinned := { name := "ytlabekemifccaaadoor", sum := "280547b7155833ec07f6c2e71453565d9ccf51980714c0d5ec40996e9544a3a6", checked := Tryd.checked }
namespace Rows
def none {H : Type} : Left H := { results := [], args := [] }

/- WHAT THE LISTED PACKAGE-LEVEL VARIABLES READ AS WHEN THE CALL BEGINS. Each datum BY PROGRAM (the guide's laid-datum.mjs) off the statement by which the dump's own 'gosem.cut.vars' lays the variable. In a bare row this is a premise. The card (YtlabekemifccaaaDoorCards.lean) ties it to the program's text. -/
def laid_math_bits_deBruijn32tab {H : Type} : DataW H := .agg [.lit (.int .u8 0), .lit (.int .u8 1), .lit (.int .u8 28), .lit (.int .u8 2), .lit (.int .u8 29), .lit (.int .u8 14), .lit (.int .u8 24), .lit (.int .u8 3), .lit (.int .u8 30), .lit (.int .u8 22), .lit (.int .u8 20), .lit (.int .u8 15), .lit (.int .u8 25), .lit (.int .u8 17), .lit (.int .u8 4), .lit (.int .u8 8), .lit (.int .u8 31), .lit (.int .u8 27), .lit (.int .u8 13), .lit (.int .u8 23), .lit (.int .u8 21), .lit (.int .u8 19), .lit (.int .u8 16), .lit (.int .u8 7), .lit (.int .u8 26), .lit (.int .u8 12), .lit (.int .u8 18), .lit (.int .u8 6), .lit (.int .u8 11), .lit (.int .u8 5), .lit (.int .u8 10), .lit (.int .u8 9)]
def laid_math_bits_deBruijn64tab {H : Type} : DataW H := .agg [.lit (.int .u8 0), .lit (.int .u8 1), .lit (.int .u8 56), .lit (.int .u8 2), .lit (.int .u8 57), .lit (.int .u8 49), .lit (.int .u8 28), .lit (.int .u8 3), .lit (.int .u8 61), .lit (.int .u8 58), .lit (.int .u8 42), .lit (.int .u8 50), .lit (.int .u8 38), .lit (.int .u8 29), .lit (.int .u8 17), .lit (.int .u8 4), .lit (.int .u8 62), .lit (.int .u8 47), .lit (.int .u8 59), .lit (.int .u8 36), .lit (.int .u8 45), .lit (.int .u8 43), .lit (.int .u8 51), .lit (.int .u8 22), .lit (.int .u8 53), .lit (.int .u8 39), .lit (.int .u8 33), .lit (.int .u8 30), .lit (.int .u8 24), .lit (.int .u8 18), .lit (.int .u8 12), .lit (.int .u8 5), .lit (.int .u8 63), .lit (.int .u8 55), .lit (.int .u8 48), .lit (.int .u8 27), .lit (.int .u8 60), .lit (.int .u8 41), .lit (.int .u8 37), .lit (.int .u8 16), .lit (.int .u8 46), .lit (.int .u8 35), .lit (.int .u8 44), .lit (.int .u8 21), .lit (.int .u8 52), .lit (.int .u8 32), .lit (.int .u8 23), .lit (.int .u8 11), .lit (.int .u8 54), .lit (.int .u8 26), .lit (.int .u8 40), .lit (.int .u8 15), .lit (.int .u8 34), .lit (.int .u8 20), .lit (.int .u8 31), .lit (.int .u8 10), .lit (.int .u8 25), .lit (.int .u8 14), .lit (.int .u8 19), .lit (.int .u8 9), .lit (.int .u8 13), .lit (.int .u8 8), .lit (.int .u8 7), .lit (.int .u8 6)]
def laid_internal_strconv_uint64pow10 {H : Type} : DataW H := .agg [.lit (.int .u64 1), .lit (.int .u64 10), .lit (.int .u64 100), .lit (.int .u64 1000), .lit (.int .u64 10000), .lit (.int .u64 100000), .lit (.int .u64 1000000), .lit (.int .u64 10000000), .lit (.int .u64 100000000), .lit (.int .u64 1000000000), .lit (.int .u64 10000000000), .lit (.int .u64 100000000000), .lit (.int .u64 1000000000000), .lit (.int .u64 10000000000000), .lit (.int .u64 100000000000000), .lit (.int .u64 1000000000000000), .lit (.int .u64 10000000000000000), .lit (.int .u64 100000000000000000), .lit (.int .u64 1000000000000000000), .lit (.int .u64 10000000000000000000)]
def laid_unicode_utf8_acceptRanges {H : Type} : DataW H := .agg [.agg [.lit (.int .u8 128), .lit (.int .u8 191)], .agg [.lit (.int .u8 160), .lit (.int .u8 191)], .agg [.lit (.int .u8 128), .lit (.int .u8 159)], .agg [.lit (.int .u8 144), .lit (.int .u8 191)], .agg [.lit (.int .u8 128), .lit (.int .u8 143)], .agg [.lit (.int .u8 0), .lit (.int .u8 0)], .agg [.lit (.int .u8 0), .lit (.int .u8 0)], .agg [.lit (.int .u8 0), .lit (.int .u8 0)], .agg [.lit (.int .u8 0), .lit (.int .u8 0)], .agg [.lit (.int .u8 0), .lit (.int .u8 0)], .agg [.lit (.int .u8 0), .lit (.int .u8 0)], .agg [.lit (.int .u8 0), .lit (.int .u8 0)], .agg [.lit (.int .u8 0), .lit (.int .u8 0)], .agg [.lit (.int .u8 0), .lit (.int .u8 0)], .agg [.lit (.int .u8 0), .lit (.int .u8 0)], .agg [.lit (.int .u8 0), .lit (.int .u8 0)]]
/-- One of Go's own tables, pinned by name: the form's constant. -/
def laid_unicode_utf8_first : DataW Unit := Go.Pinned.utf8First

/-- 'laws.FnExactFormatEvent': WHATEVER THE INPUT: true; the input reads as it did. -/
def fnExactFormatEventSpec : ChangeSpec := { name := "fnExactFormatEvent", fn := fun _ => fun
  | [d] => { results := [.lit (.bool true)], args := [d] }
  | _ => none }
def fnExactFormatEventRow : OpenClaim := { program := "ytlabekemifccaaadoor", sum := "280547b7155833ec07f6c2e71453565d9ccf51980714c0d5ec40996e9544a3a6", func := "loop.example/paperrolls/laws.FnExactFormatEvent", spec := "fnExactFormatEvent", recurses := true, named := ["internal/strconv.uint64pow10", "math/bits.deBruijn32tab", "math/bits.deBruijn64tab"], apart := false, laid := [("math/bits.deBruijn32tab", laid_math_bits_deBruijn32tab), ("math/bits.deBruijn64tab", laid_math_bits_deBruijn64tab), ("internal/strconv.uint64pow10", laid_internal_strconv_uint64pow10)] }
def FnExactFormatEventSaid : Prop := fnExactFormatEventRow.holds Tryd.pinned (OpenSpec.ofChange fnExactFormatEventSpec)

/-- ITS FALSE NEIGHBOUR: 'it returns false'. Refute it at one input. -/
def fnExactFormatEventWrong : ChangeSpec := { name := "fnExactFormatEvent", fn := fun _ => fun
  | [d] => { results := [.lit (.bool false)], args := [d] }
  | _ => none }
def FnExactFormatEventWrongFalsely : Prop := fnExactFormatEventRow.holds Tryd.pinned (OpenSpec.ofChange fnExactFormatEventWrong)

/-- 'laws.FnExactParseEvent': WHATEVER THE INPUT: true; the input reads as it did. -/
def fnExactParseEventSpec : ChangeSpec := { name := "fnExactParseEvent", fn := fun _ => fun
  | [d] => { results := [.lit (.bool true)], args := [d] }
  | _ => none }
def fnExactParseEventRow : OpenClaim := { program := "ytlabekemifccaaadoor", sum := "280547b7155833ec07f6c2e71453565d9ccf51980714c0d5ec40996e9544a3a6", func := "loop.example/paperrolls/laws.FnExactParseEvent", spec := "fnExactParseEvent", inPlace := ["internal/bytealg.CountString", "internal/bytealg.IndexByteString", "internal/bytealg.IndexString"], recurses := true, named := ["unicode/utf8.first", "unicode/utf8.acceptRanges", "internal/bytealg.MaxLen"], apart := false, laid := [("unicode/utf8.acceptRanges", laid_unicode_utf8_acceptRanges), ("unicode/utf8.first", laid_unicode_utf8_first)] }
def FnExactParseEventSaid : Prop := fnExactParseEventRow.holds Tryd.pinned (OpenSpec.ofChange fnExactParseEventSpec)

/-- ITS FALSE NEIGHBOUR: 'it returns false'. Refute it at one input. -/
def fnExactParseEventWrong : ChangeSpec := { name := "fnExactParseEvent", fn := fun _ => fun
  | [d] => { results := [.lit (.bool false)], args := [d] }
  | _ => none }
def FnExactParseEventWrongFalsely : Prop := fnExactParseEventRow.holds Tryd.pinned (OpenSpec.ofChange fnExactParseEventWrong)

/-- 'laws.FnExactFormatBook': WHATEVER THE INPUT: true; the input reads as it did. -/
def fnExactFormatBookSpec : ChangeSpec := { name := "fnExactFormatBook", fn := fun _ => fun
  | [d] => { results := [.lit (.bool true)], args := [d] }
  | _ => none }
def fnExactFormatBookRow : OpenClaim := { program := "ytlabekemifccaaadoor", sum := "280547b7155833ec07f6c2e71453565d9ccf51980714c0d5ec40996e9544a3a6", func := "loop.example/paperrolls/laws.FnExactFormatBook", spec := "fnExactFormatBook", inPlace := ["internal/abi.NoEscape"], recurses := true, named := ["internal/strconv.uint64pow10", "math/bits.deBruijn32tab", "math/bits.deBruijn64tab"], apart := false, laid := [("math/bits.deBruijn32tab", laid_math_bits_deBruijn32tab), ("math/bits.deBruijn64tab", laid_math_bits_deBruijn64tab), ("internal/strconv.uint64pow10", laid_internal_strconv_uint64pow10)] }
def FnExactFormatBookSaid : Prop := fnExactFormatBookRow.holds Tryd.pinned (OpenSpec.ofChange fnExactFormatBookSpec)

/-- ITS FALSE NEIGHBOUR: 'it returns false'. Refute it at one input. -/
def fnExactFormatBookWrong : ChangeSpec := { name := "fnExactFormatBook", fn := fun _ => fun
  | [d] => { results := [.lit (.bool false)], args := [d] }
  | _ => none }
def FnExactFormatBookWrongFalsely : Prop := fnExactFormatBookRow.holds Tryd.pinned (OpenSpec.ofChange fnExactFormatBookWrong)

/-- 'laws.FnExactRecoverBook': WHATEVER THE INPUT: true; the input reads as it did. -/
def fnExactRecoverBookSpec : ChangeSpec := { name := "fnExactRecoverBook", fn := fun _ => fun
  | [d] => { results := [.lit (.bool true)], args := [d] }
  | _ => none }
def fnExactRecoverBookRow : OpenClaim := { program := "ytlabekemifccaaadoor", sum := "280547b7155833ec07f6c2e71453565d9ccf51980714c0d5ec40996e9544a3a6", func := "loop.example/paperrolls/laws.FnExactRecoverBook", spec := "fnExactRecoverBook", inPlace := ["internal/bytealg.IndexByteString", "internal/bytealg.IndexString", "internal/bytealg.CountString"], recurses := true, named := ["internal/bytealg.MaxLen", "unicode/utf8.first", "unicode/utf8.acceptRanges"], apart := false, laid := [("unicode/utf8.acceptRanges", laid_unicode_utf8_acceptRanges), ("unicode/utf8.first", laid_unicode_utf8_first)] }
def FnExactRecoverBookSaid : Prop := fnExactRecoverBookRow.holds Tryd.pinned (OpenSpec.ofChange fnExactRecoverBookSpec)

/-- ITS FALSE NEIGHBOUR: 'it returns false'. Refute it at one input. -/
def fnExactRecoverBookWrong : ChangeSpec := { name := "fnExactRecoverBook", fn := fun _ => fun
  | [d] => { results := [.lit (.bool false)], args := [d] }
  | _ => none }
def FnExactRecoverBookWrongFalsely : Prop := fnExactRecoverBookRow.holds Tryd.pinned (OpenSpec.ofChange fnExactRecoverBookWrong)

/-- 'laws.FnFormatEvent': WHATEVER THE INPUT: true; the input reads as it did. -/
def fnFormatEventSpec : ChangeSpec := { name := "fnFormatEvent", fn := fun _ => fun
  | [d] => { results := [.lit (.bool true)], args := [d] }
  | _ => none }
def fnFormatEventRow : OpenClaim := { program := "ytlabekemifccaaadoor", sum := "280547b7155833ec07f6c2e71453565d9ccf51980714c0d5ec40996e9544a3a6", func := "loop.example/paperrolls/laws.FnFormatEvent", spec := "fnFormatEvent", inPlace := ["internal/bytealg.CountString", "internal/bytealg.IndexByteString", "internal/bytealg.IndexString"], recurses := true, named := ["internal/strconv.uint64pow10", "math/bits.deBruijn32tab", "math/bits.deBruijn64tab", "unicode/utf8.first", "unicode/utf8.acceptRanges", "internal/bytealg.MaxLen"], apart := false, laid := [("math/bits.deBruijn32tab", laid_math_bits_deBruijn32tab), ("math/bits.deBruijn64tab", laid_math_bits_deBruijn64tab), ("internal/strconv.uint64pow10", laid_internal_strconv_uint64pow10), ("unicode/utf8.acceptRanges", laid_unicode_utf8_acceptRanges), ("unicode/utf8.first", laid_unicode_utf8_first)] }
def FnFormatEventSaid : Prop := fnFormatEventRow.holds Tryd.pinned (OpenSpec.ofChange fnFormatEventSpec)

/-- ITS FALSE NEIGHBOUR: 'it returns false'. Refute it at one input. -/
def fnFormatEventWrong : ChangeSpec := { name := "fnFormatEvent", fn := fun _ => fun
  | [d] => { results := [.lit (.bool false)], args := [d] }
  | _ => none }
def FnFormatEventWrongFalsely : Prop := fnFormatEventRow.holds Tryd.pinned (OpenSpec.ofChange fnFormatEventWrong)

/-- 'laws.FnParseEvent': WHATEVER THE INPUT: true; the input reads as it did. -/
def fnParseEventSpec : ChangeSpec := { name := "fnParseEvent", fn := fun _ => fun
  | [d] => { results := [.lit (.bool true)], args := [d] }
  | _ => none }
def fnParseEventRow : OpenClaim := { program := "ytlabekemifccaaadoor", sum := "280547b7155833ec07f6c2e71453565d9ccf51980714c0d5ec40996e9544a3a6", func := "loop.example/paperrolls/laws.FnParseEvent", spec := "fnParseEvent", inPlace := ["internal/bytealg.CountString", "internal/bytealg.IndexByteString", "internal/bytealg.IndexString"], recurses := true, named := ["unicode/utf8.first", "unicode/utf8.acceptRanges", "internal/bytealg.MaxLen", "internal/strconv.uint64pow10", "math/bits.deBruijn32tab", "math/bits.deBruijn64tab"], apart := false, laid := [("math/bits.deBruijn32tab", laid_math_bits_deBruijn32tab), ("math/bits.deBruijn64tab", laid_math_bits_deBruijn64tab), ("internal/strconv.uint64pow10", laid_internal_strconv_uint64pow10), ("unicode/utf8.acceptRanges", laid_unicode_utf8_acceptRanges), ("unicode/utf8.first", laid_unicode_utf8_first)] }
def FnParseEventSaid : Prop := fnParseEventRow.holds Tryd.pinned (OpenSpec.ofChange fnParseEventSpec)

/-- ITS FALSE NEIGHBOUR: 'it returns false'. Refute it at one input. -/
def fnParseEventWrong : ChangeSpec := { name := "fnParseEvent", fn := fun _ => fun
  | [d] => { results := [.lit (.bool false)], args := [d] }
  | _ => none }
def FnParseEventWrongFalsely : Prop := fnParseEventRow.holds Tryd.pinned (OpenSpec.ofChange fnParseEventWrong)

/-- 'laws.FnRecoverBook': WHATEVER THE INPUT: true; the input reads as it did. -/
def fnRecoverBookSpec : ChangeSpec := { name := "fnRecoverBook", fn := fun _ => fun
  | [d] => { results := [.lit (.bool true)], args := [d] }
  | _ => none }
def fnRecoverBookRow : OpenClaim := { program := "ytlabekemifccaaadoor", sum := "280547b7155833ec07f6c2e71453565d9ccf51980714c0d5ec40996e9544a3a6", func := "loop.example/paperrolls/laws.FnRecoverBook", spec := "fnRecoverBook", inPlace := ["internal/bytealg.IndexByteString", "internal/bytealg.IndexString", "internal/bytealg.CountString", "internal/abi.NoEscape"], recurses := true, named := ["internal/bytealg.MaxLen", "unicode/utf8.first", "unicode/utf8.acceptRanges", "internal/strconv.uint64pow10", "math/bits.deBruijn32tab", "math/bits.deBruijn64tab"], apart := false, laid := [("math/bits.deBruijn32tab", laid_math_bits_deBruijn32tab), ("math/bits.deBruijn64tab", laid_math_bits_deBruijn64tab), ("internal/strconv.uint64pow10", laid_internal_strconv_uint64pow10), ("unicode/utf8.acceptRanges", laid_unicode_utf8_acceptRanges), ("unicode/utf8.first", laid_unicode_utf8_first)] }
def FnRecoverBookSaid : Prop := fnRecoverBookRow.holds Tryd.pinned (OpenSpec.ofChange fnRecoverBookSpec)

/-- ITS FALSE NEIGHBOUR: 'it returns false'. Refute it at one input. -/
def fnRecoverBookWrong : ChangeSpec := { name := "fnRecoverBook", fn := fun _ => fun
  | [d] => { results := [.lit (.bool false)], args := [d] }
  | _ => none }
def FnRecoverBookWrongFalsely : Prop := fnRecoverBookRow.holds Tryd.pinned (OpenSpec.ofChange fnRecoverBookWrong)

/-- 'laws.FnFormatEventSame': WHATEVER THE INPUT: true; the input reads as it did. -/
def fnFormatEventSameSpec : ChangeSpec := { name := "fnFormatEventSame", fn := fun _ => fun
  | [d] => { results := [.lit (.bool true)], args := [d] }
  | _ => none }
def fnFormatEventSameRow : OpenClaim := { program := "ytlabekemifccaaadoor", sum := "280547b7155833ec07f6c2e71453565d9ccf51980714c0d5ec40996e9544a3a6", func := "loop.example/paperrolls/laws.FnFormatEventSame", spec := "fnFormatEventSame", inPlace := ["slices.overlaps[loop.example/paperrolls/impl.Entry]", "internal/bytealg.CountString", "internal/bytealg.IndexByteString", "internal/bytealg.IndexString"], unfollowed := true, recurses := true, named := ["internal/strconv.uint64pow10", "math/bits.deBruijn32tab", "math/bits.deBruijn64tab", "unicode/utf8.first", "unicode/utf8.acceptRanges", "internal/bytealg.MaxLen"], apart := false, laid := [("math/bits.deBruijn32tab", laid_math_bits_deBruijn32tab), ("math/bits.deBruijn64tab", laid_math_bits_deBruijn64tab), ("internal/strconv.uint64pow10", laid_internal_strconv_uint64pow10), ("unicode/utf8.acceptRanges", laid_unicode_utf8_acceptRanges), ("unicode/utf8.first", laid_unicode_utf8_first)] }
def FnFormatEventSameSaid : Prop := fnFormatEventSameRow.holds Tryd.pinned (OpenSpec.ofChange fnFormatEventSameSpec)

/-- ITS FALSE NEIGHBOUR: 'it returns false'. Refute it at one input. -/
def fnFormatEventSameWrong : ChangeSpec := { name := "fnFormatEventSame", fn := fun _ => fun
  | [d] => { results := [.lit (.bool false)], args := [d] }
  | _ => none }
def FnFormatEventSameWrongFalsely : Prop := fnFormatEventSameRow.holds Tryd.pinned (OpenSpec.ofChange fnFormatEventSameWrong)

/- THE SECOND FORM. 'bulk': how many values and letters a reading holds, each counted each time it is reached (what is shared counts as often as it is met; a slice's spare places count too). A statement '..UptoSaid' is the law's where the arguments, and the package variables that the reading takes, are together of bulk at most 1048576: NARROWER than '..Said'. Prove '..Said' where nothing that the law and all that it calls make is longer than what came in: it says more and counts as full. Else prove '..UptoSaid'. A law counts once. -/
mutual
def uptoBulk {H : Type} : DataW H → Nat
  | .lit (.string bytes) => bytes.length + 1
  | .lit _ => 1
  | .nil => 1
  | .ptr d => uptoBulk d + 1
  | .slice elems spare => uptoBulkAll elems + uptoBulkAll spare + 1
  | .agg parts => uptoBulkAll parts + 1
  | .iface _ d => uptoBulk d + 1
  | .map entries => uptoBulkEntries entries + 1
  | .held _ => 1
def uptoBulkAll {H : Type} : List (DataW H) → Nat
  | [] => 0
  | d :: r => uptoBulk d + uptoBulkAll r
def uptoBulkEntries {H : Type} : List (Lit × DataW H) → Nat
  | [] => 0
  | x :: r => uptoBulkEntry x + uptoBulkEntries r
def uptoBulkEntry {H : Type} : Lit × DataW H → Nat
  | (.string bytes, d) => bytes.length + uptoBulk d + 1
  | (_, d) => uptoBulk d + 1
 end
def uptoSmall : (H : Type) → List (DataW H) → Bool := fun _ ds => decide (uptoBulkAll ds ≤ 1048576)
def OpenSpec.upto (s : _root_.Go.ChangeSpec) : _root_.Go.OpenSpec := { _root_.Go.OpenSpec.ofChange s with cond := some uptoSmall }

/-- 'laws.FnExactFormatEvent', WHERE WHAT IT READS IS OF BULK AT MOST 1048576: true; the input reads as it did. -/
def fnExactFormatEventUptoRow : OpenClaim := { program := "ytlabekemifccaaadoor", sum := "280547b7155833ec07f6c2e71453565d9ccf51980714c0d5ec40996e9544a3a6", func := "loop.example/paperrolls/laws.FnExactFormatEvent", spec := "fnExactFormatEvent", recurses := true, named := ["internal/strconv.uint64pow10", "math/bits.deBruijn32tab", "math/bits.deBruijn64tab"], apart := false, laid := [("math/bits.deBruijn32tab", laid_math_bits_deBruijn32tab), ("math/bits.deBruijn64tab", laid_math_bits_deBruijn64tab), ("internal/strconv.uint64pow10", laid_internal_strconv_uint64pow10)], narrowed := true }
def FnExactFormatEventUptoSaid : Prop := fnExactFormatEventUptoRow.holds Tryd.pinned (OpenSpec.upto fnExactFormatEventSpec)

/-- 'laws.FnExactParseEvent', WHERE WHAT IT READS IS OF BULK AT MOST 1048576: true; the input reads as it did. -/
def fnExactParseEventUptoRow : OpenClaim := { program := "ytlabekemifccaaadoor", sum := "280547b7155833ec07f6c2e71453565d9ccf51980714c0d5ec40996e9544a3a6", func := "loop.example/paperrolls/laws.FnExactParseEvent", spec := "fnExactParseEvent", inPlace := ["internal/bytealg.CountString", "internal/bytealg.IndexByteString", "internal/bytealg.IndexString"], recurses := true, named := ["unicode/utf8.first", "unicode/utf8.acceptRanges", "internal/bytealg.MaxLen"], apart := false, laid := [("unicode/utf8.acceptRanges", laid_unicode_utf8_acceptRanges), ("unicode/utf8.first", laid_unicode_utf8_first)], narrowed := true }
def FnExactParseEventUptoSaid : Prop := fnExactParseEventUptoRow.holds Tryd.pinned (OpenSpec.upto fnExactParseEventSpec)

/-- 'laws.FnExactFormatBook', WHERE WHAT IT READS IS OF BULK AT MOST 1048576: true; the input reads as it did. -/
def fnExactFormatBookUptoRow : OpenClaim := { program := "ytlabekemifccaaadoor", sum := "280547b7155833ec07f6c2e71453565d9ccf51980714c0d5ec40996e9544a3a6", func := "loop.example/paperrolls/laws.FnExactFormatBook", spec := "fnExactFormatBook", inPlace := ["internal/abi.NoEscape"], recurses := true, named := ["internal/strconv.uint64pow10", "math/bits.deBruijn32tab", "math/bits.deBruijn64tab"], apart := false, laid := [("math/bits.deBruijn32tab", laid_math_bits_deBruijn32tab), ("math/bits.deBruijn64tab", laid_math_bits_deBruijn64tab), ("internal/strconv.uint64pow10", laid_internal_strconv_uint64pow10)], narrowed := true }
def FnExactFormatBookUptoSaid : Prop := fnExactFormatBookUptoRow.holds Tryd.pinned (OpenSpec.upto fnExactFormatBookSpec)

/-- 'laws.FnExactRecoverBook', WHERE WHAT IT READS IS OF BULK AT MOST 1048576: true; the input reads as it did. -/
def fnExactRecoverBookUptoRow : OpenClaim := { program := "ytlabekemifccaaadoor", sum := "280547b7155833ec07f6c2e71453565d9ccf51980714c0d5ec40996e9544a3a6", func := "loop.example/paperrolls/laws.FnExactRecoverBook", spec := "fnExactRecoverBook", inPlace := ["internal/bytealg.IndexByteString", "internal/bytealg.IndexString", "internal/bytealg.CountString"], recurses := true, named := ["internal/bytealg.MaxLen", "unicode/utf8.first", "unicode/utf8.acceptRanges"], apart := false, laid := [("unicode/utf8.acceptRanges", laid_unicode_utf8_acceptRanges), ("unicode/utf8.first", laid_unicode_utf8_first)], narrowed := true }
def FnExactRecoverBookUptoSaid : Prop := fnExactRecoverBookUptoRow.holds Tryd.pinned (OpenSpec.upto fnExactRecoverBookSpec)

/-- 'laws.FnFormatEvent', WHERE WHAT IT READS IS OF BULK AT MOST 1048576: true; the input reads as it did. -/
def fnFormatEventUptoRow : OpenClaim := { program := "ytlabekemifccaaadoor", sum := "280547b7155833ec07f6c2e71453565d9ccf51980714c0d5ec40996e9544a3a6", func := "loop.example/paperrolls/laws.FnFormatEvent", spec := "fnFormatEvent", inPlace := ["internal/bytealg.CountString", "internal/bytealg.IndexByteString", "internal/bytealg.IndexString"], recurses := true, named := ["internal/strconv.uint64pow10", "math/bits.deBruijn32tab", "math/bits.deBruijn64tab", "unicode/utf8.first", "unicode/utf8.acceptRanges", "internal/bytealg.MaxLen"], apart := false, laid := [("math/bits.deBruijn32tab", laid_math_bits_deBruijn32tab), ("math/bits.deBruijn64tab", laid_math_bits_deBruijn64tab), ("internal/strconv.uint64pow10", laid_internal_strconv_uint64pow10), ("unicode/utf8.acceptRanges", laid_unicode_utf8_acceptRanges), ("unicode/utf8.first", laid_unicode_utf8_first)], narrowed := true }
def FnFormatEventUptoSaid : Prop := fnFormatEventUptoRow.holds Tryd.pinned (OpenSpec.upto fnFormatEventSpec)

/-- 'laws.FnParseEvent', WHERE WHAT IT READS IS OF BULK AT MOST 1048576: true; the input reads as it did. -/
def fnParseEventUptoRow : OpenClaim := { program := "ytlabekemifccaaadoor", sum := "280547b7155833ec07f6c2e71453565d9ccf51980714c0d5ec40996e9544a3a6", func := "loop.example/paperrolls/laws.FnParseEvent", spec := "fnParseEvent", inPlace := ["internal/bytealg.CountString", "internal/bytealg.IndexByteString", "internal/bytealg.IndexString"], recurses := true, named := ["unicode/utf8.first", "unicode/utf8.acceptRanges", "internal/bytealg.MaxLen", "internal/strconv.uint64pow10", "math/bits.deBruijn32tab", "math/bits.deBruijn64tab"], apart := false, laid := [("math/bits.deBruijn32tab", laid_math_bits_deBruijn32tab), ("math/bits.deBruijn64tab", laid_math_bits_deBruijn64tab), ("internal/strconv.uint64pow10", laid_internal_strconv_uint64pow10), ("unicode/utf8.acceptRanges", laid_unicode_utf8_acceptRanges), ("unicode/utf8.first", laid_unicode_utf8_first)], narrowed := true }
def FnParseEventUptoSaid : Prop := fnParseEventUptoRow.holds Tryd.pinned (OpenSpec.upto fnParseEventSpec)

/-- 'laws.FnRecoverBook', WHERE WHAT IT READS IS OF BULK AT MOST 1048576: true; the input reads as it did. -/
def fnRecoverBookUptoRow : OpenClaim := { program := "ytlabekemifccaaadoor", sum := "280547b7155833ec07f6c2e71453565d9ccf51980714c0d5ec40996e9544a3a6", func := "loop.example/paperrolls/laws.FnRecoverBook", spec := "fnRecoverBook", inPlace := ["internal/bytealg.IndexByteString", "internal/bytealg.IndexString", "internal/bytealg.CountString", "internal/abi.NoEscape"], recurses := true, named := ["internal/bytealg.MaxLen", "unicode/utf8.first", "unicode/utf8.acceptRanges", "internal/strconv.uint64pow10", "math/bits.deBruijn32tab", "math/bits.deBruijn64tab"], apart := false, laid := [("math/bits.deBruijn32tab", laid_math_bits_deBruijn32tab), ("math/bits.deBruijn64tab", laid_math_bits_deBruijn64tab), ("internal/strconv.uint64pow10", laid_internal_strconv_uint64pow10), ("unicode/utf8.acceptRanges", laid_unicode_utf8_acceptRanges), ("unicode/utf8.first", laid_unicode_utf8_first)], narrowed := true }
def FnRecoverBookUptoSaid : Prop := fnRecoverBookUptoRow.holds Tryd.pinned (OpenSpec.upto fnRecoverBookSpec)

/-- 'laws.FnFormatEventSame', WHERE WHAT IT READS IS OF BULK AT MOST 1048576: true; the input reads as it did. -/
def fnFormatEventSameUptoRow : OpenClaim := { program := "ytlabekemifccaaadoor", sum := "280547b7155833ec07f6c2e71453565d9ccf51980714c0d5ec40996e9544a3a6", func := "loop.example/paperrolls/laws.FnFormatEventSame", spec := "fnFormatEventSame", inPlace := ["slices.overlaps[loop.example/paperrolls/impl.Entry]", "internal/bytealg.CountString", "internal/bytealg.IndexByteString", "internal/bytealg.IndexString"], unfollowed := true, recurses := true, named := ["internal/strconv.uint64pow10", "math/bits.deBruijn32tab", "math/bits.deBruijn64tab", "unicode/utf8.first", "unicode/utf8.acceptRanges", "internal/bytealg.MaxLen"], apart := false, laid := [("math/bits.deBruijn32tab", laid_math_bits_deBruijn32tab), ("math/bits.deBruijn64tab", laid_math_bits_deBruijn64tab), ("internal/strconv.uint64pow10", laid_internal_strconv_uint64pow10), ("unicode/utf8.acceptRanges", laid_unicode_utf8_acceptRanges), ("unicode/utf8.first", laid_unicode_utf8_first)], narrowed := true }
def FnFormatEventSameUptoSaid : Prop := fnFormatEventSameUptoRow.holds Tryd.pinned (OpenSpec.upto fnFormatEventSameSpec)

end Rows
end Go.Proofs.YtlabekemifccaaaDoor
