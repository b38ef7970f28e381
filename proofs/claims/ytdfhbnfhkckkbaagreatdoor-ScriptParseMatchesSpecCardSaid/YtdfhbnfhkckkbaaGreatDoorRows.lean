/-
  NARROWER THAN 'FOR EVERY INPUT', by the rows' own cells (each row's printed sentence says how): ScriptMatchesSpec: laid · ScriptDecodeMatchesSpec: laid · ScriptParseMatchesSpec: laid · ScriptRoundTrip: laid · ScriptCanonical: laid · ScriptUnits: laid · ScriptPrefix: laid.
  DERIVED. THE GIVEN ROWS OF THIS SEAT. 7 by the template 'for every input the law returns true; each argument reads behind the call as it read before'; 0 by the template 'total and deterministic' (their statements: YtdfhbnfhkckkbaaGreatDoorTotals.lean).
  GIVEN WITH THE SEED: the statements are not yours to turn. If you find one false, say at which input.
  Laid BY PROGRAM, IN A SANDBOX (cutbox-rows.mjs): the forced cells as the released guide's own fill.sh prints them over the translation 9aceac4e6af6f89a… (all of the seat's roots in one cut). By AI agents, Wed Nov 11 2026. No macro, syntax, notation, axiom, sorry.
-/
import Derived.Test.YtdfhbnfhkckkbaaGreatDoorChecked
import GoSem.PinnedTables
import GoSem.Claim
import GoSem.ClaimJoined
import GoSem.ClaimMapViews
import Derived.JoinedTies
import Derived.KernelRfl
namespace Go.Proofs.YtdfhbnfhkckkbaaGreatDoor
/- THE CELL 'sum', in the pinned program and in every row, IS THE sha256 OF THE DUMP (.gsa) THAT YtdfhbnfhkckkbaaGreatDoorProg.lean LOADS. Nothing in Lean hashes anything: it is a label: what it is worth is what the hold of that sum in a sandbox is worth. -/
noncomputable def Tryz.pinned : Pinned := { name := "ytdfhbnfhkckkbaagreatdoor", sum := "9aceac4e6af6f89abb9340488c60b8f9b63767ad7c89eea403616f80a2ba8ee9", checked := Tryz.checked }
namespace Rows
def none {H : Type} : Left H := { results := [], args := [] }

/- WHAT THE LISTED PACKAGE-LEVEL VARIABLES READ AS WHEN THE CALL BEGINS. Each datum BY PROGRAM (the guide's laid-datum.mjs) off the statement by which the dump's own 'gosem.cut.vars' lays the variable. In a bare row this is a premise. The card (YtdfhbnfhkckkbaaGreatDoorCards.lean) ties it to the program's text. -/
def laid_math_bits_deBruijn32tab {H : Type} : DataW H := .agg [.lit (.int .u8 0), .lit (.int .u8 1), .lit (.int .u8 28), .lit (.int .u8 2), .lit (.int .u8 29), .lit (.int .u8 14), .lit (.int .u8 24), .lit (.int .u8 3), .lit (.int .u8 30), .lit (.int .u8 22), .lit (.int .u8 20), .lit (.int .u8 15), .lit (.int .u8 25), .lit (.int .u8 17), .lit (.int .u8 4), .lit (.int .u8 8), .lit (.int .u8 31), .lit (.int .u8 27), .lit (.int .u8 13), .lit (.int .u8 23), .lit (.int .u8 21), .lit (.int .u8 19), .lit (.int .u8 16), .lit (.int .u8 7), .lit (.int .u8 26), .lit (.int .u8 12), .lit (.int .u8 18), .lit (.int .u8 6), .lit (.int .u8 11), .lit (.int .u8 5), .lit (.int .u8 10), .lit (.int .u8 9)]
def laid_math_bits_deBruijn64tab {H : Type} : DataW H := .agg [.lit (.int .u8 0), .lit (.int .u8 1), .lit (.int .u8 56), .lit (.int .u8 2), .lit (.int .u8 57), .lit (.int .u8 49), .lit (.int .u8 28), .lit (.int .u8 3), .lit (.int .u8 61), .lit (.int .u8 58), .lit (.int .u8 42), .lit (.int .u8 50), .lit (.int .u8 38), .lit (.int .u8 29), .lit (.int .u8 17), .lit (.int .u8 4), .lit (.int .u8 62), .lit (.int .u8 47), .lit (.int .u8 59), .lit (.int .u8 36), .lit (.int .u8 45), .lit (.int .u8 43), .lit (.int .u8 51), .lit (.int .u8 22), .lit (.int .u8 53), .lit (.int .u8 39), .lit (.int .u8 33), .lit (.int .u8 30), .lit (.int .u8 24), .lit (.int .u8 18), .lit (.int .u8 12), .lit (.int .u8 5), .lit (.int .u8 63), .lit (.int .u8 55), .lit (.int .u8 48), .lit (.int .u8 27), .lit (.int .u8 60), .lit (.int .u8 41), .lit (.int .u8 37), .lit (.int .u8 16), .lit (.int .u8 46), .lit (.int .u8 35), .lit (.int .u8 44), .lit (.int .u8 21), .lit (.int .u8 52), .lit (.int .u8 32), .lit (.int .u8 23), .lit (.int .u8 11), .lit (.int .u8 54), .lit (.int .u8 26), .lit (.int .u8 40), .lit (.int .u8 15), .lit (.int .u8 34), .lit (.int .u8 20), .lit (.int .u8 31), .lit (.int .u8 10), .lit (.int .u8 25), .lit (.int .u8 14), .lit (.int .u8 19), .lit (.int .u8 9), .lit (.int .u8 13), .lit (.int .u8 8), .lit (.int .u8 7), .lit (.int .u8 6)]
def laid_internal_strconv_uint64pow10 {H : Type} : DataW H := .agg [.lit (.int .u64 1), .lit (.int .u64 10), .lit (.int .u64 100), .lit (.int .u64 1000), .lit (.int .u64 10000), .lit (.int .u64 100000), .lit (.int .u64 1000000), .lit (.int .u64 10000000), .lit (.int .u64 100000000), .lit (.int .u64 1000000000), .lit (.int .u64 10000000000), .lit (.int .u64 100000000000), .lit (.int .u64 1000000000000), .lit (.int .u64 10000000000000), .lit (.int .u64 100000000000000), .lit (.int .u64 1000000000000000), .lit (.int .u64 10000000000000000), .lit (.int .u64 100000000000000000), .lit (.int .u64 1000000000000000000), .lit (.int .u64 10000000000000000000)]
def laid_unicode_utf8_acceptRanges {H : Type} : DataW H := .agg [.agg [.lit (.int .u8 128), .lit (.int .u8 191)], .agg [.lit (.int .u8 160), .lit (.int .u8 191)], .agg [.lit (.int .u8 128), .lit (.int .u8 159)], .agg [.lit (.int .u8 144), .lit (.int .u8 191)], .agg [.lit (.int .u8 128), .lit (.int .u8 143)], .agg [.lit (.int .u8 0), .lit (.int .u8 0)], .agg [.lit (.int .u8 0), .lit (.int .u8 0)], .agg [.lit (.int .u8 0), .lit (.int .u8 0)], .agg [.lit (.int .u8 0), .lit (.int .u8 0)], .agg [.lit (.int .u8 0), .lit (.int .u8 0)], .agg [.lit (.int .u8 0), .lit (.int .u8 0)], .agg [.lit (.int .u8 0), .lit (.int .u8 0)], .agg [.lit (.int .u8 0), .lit (.int .u8 0)], .agg [.lit (.int .u8 0), .lit (.int .u8 0)], .agg [.lit (.int .u8 0), .lit (.int .u8 0)], .agg [.lit (.int .u8 0), .lit (.int .u8 0)]]
def laid_strconv_ErrRange {H : Type} : DataW H := .iface "*errors.errorString" (.ptr (.agg [.lit (.string [118, 97, 108, 117, 101, 32, 111, 117, 116, 32, 111, 102, 32, 114, 97, 110, 103, 101])]))
def laid_strconv_ErrSyntax {H : Type} : DataW H := .iface "*errors.errorString" (.ptr (.agg [.lit (.string [105, 110, 118, 97, 108, 105, 100, 32, 115, 121, 110, 116, 97, 120])]))
def laid_solvent_script_kinds {H : Type} : DataW H := .agg [.agg [.lit (.string [99, 111, 100, 101]), .lit (.int .i64 1)], .agg [.lit (.string [116, 101, 114, 109, 115]), .lit (.int .i64 1)], .agg [.lit (.string [99, 114, 101, 97, 116, 101]), .lit (.int .i64 1)], .agg [.lit (.string [100, 101, 108, 101, 116, 101]), .lit (.int .i64 1)], .agg [.lit (.string [103, 105, 118, 101]), .lit (.int .i64 2)], .agg [.lit (.string [119, 114, 105, 116, 101]), .lit (.int .i64 3)], .agg [.lit (.string [102, 105, 108, 108]), .lit (.int .i64 4)], .agg [.lit (.string [116, 119, 105, 110]), .lit (.int .i64 4)], .agg [.lit (.string [100, 105, 115, 99, 97, 114, 100]), .lit (.int .i64 3)], .agg [.lit (.string [114, 101, 97, 100]), .lit (.int .i64 2)], .agg [.lit (.string [115, 110, 97, 112, 115, 104, 111, 116]), .lit (.int .i64 1)], .agg [.lit (.string [100, 114, 111, 112]), .lit (.int .i64 1)], .agg [.lit (.string [99, 108, 111, 110, 101]), .lit (.int .i64 2)], .agg [.lit (.string [114, 101, 115, 116, 111, 114, 101]), .lit (.int .i64 2)], .agg [.lit (.string [99, 104, 97, 110, 103, 101]), .lit (.int .i64 2)], .agg [.lit (.string [99, 108, 111, 115, 101]), .lit (.int .i64 0)], .agg [.lit (.string [107, 101, 101, 112]), .lit (.int .i64 1)], .agg [.lit (.string [102, 117, 115, 101]), .lit (.int .i64 1)], .agg [.lit (.string [109, 111, 117, 110, 116]), .lit (.int .i64 64)], .agg [.lit (.string [107, 105, 108, 108]), .lit (.int .i64 1)], .agg [.lit (.string [114, 101, 109, 111, 118, 101]), .lit (.int .i64 1)], .agg [.lit (.string [105, 110, 115, 101, 114, 116]), .lit (.int .i64 2)], .agg [.lit (.string [114, 101, 112, 108, 97, 99, 101]), .lit (.int .i64 1)], .agg [.lit (.string [114, 111, 116]), .lit (.int .i64 4)], .agg [.lit (.string [108, 111, 115, 101]), .lit (.int .i64 3)], .agg [.lit (.string [109, 105, 115, 100, 105, 114, 101, 99, 116]), .lit (.int .i64 4)], .agg [.lit (.string [97, 117, 100, 105, 116]), .lit (.int .i64 1)]]
/-- One of Go's own tables, pinned by name: the form's constant. -/
def laid_unicode_utf8_first : DataW Unit := Go.Pinned.utf8First

/-- 'solventlaw46.ScriptMatchesSpec': WHATEVER THE INPUT: true; the input reads as it did. -/
def scriptMatchesSpecSpec : ChangeSpec := { name := "scriptMatchesSpec", fn := fun _ => fun
  | [d1, d2, d3] => { results := [.lit (.bool true)], args := [d1, d2, d3] }
  | _ => none }
def scriptMatchesSpecRow : OpenClaim := { program := "ytdfhbnfhkckkbaagreatdoor", sum := "9aceac4e6af6f89abb9340488c60b8f9b63767ad7c89eea403616f80a2ba8ee9", func := "solvent/solventlaw46.ScriptMatchesSpec", spec := "scriptMatchesSpec", inPlace := ["internal/abi.NoEscape", "internal/bytealg.MakeNoZero", "internal/bytealg.CountString", "internal/bytealg.IndexByteString", "internal/bytealg.IndexString"], unfollowed := true, recurses := true, named := ["solvent/script.kinds", "internal/strconv.uint64pow10", "math/bits.deBruijn32tab", "math/bits.deBruijn64tab", "unicode/utf8.first", "unicode/utf8.acceptRanges", "internal/bytealg.MaxLen", "strconv.ErrSyntax", "strconv.ErrRange"], apart := false, laid := [("math/bits.deBruijn32tab", laid_math_bits_deBruijn32tab), ("math/bits.deBruijn64tab", laid_math_bits_deBruijn64tab), ("internal/strconv.uint64pow10", laid_internal_strconv_uint64pow10), ("unicode/utf8.acceptRanges", laid_unicode_utf8_acceptRanges), ("strconv.ErrRange", laid_strconv_ErrRange), ("strconv.ErrSyntax", laid_strconv_ErrSyntax), ("solvent/script.kinds", laid_solvent_script_kinds), ("unicode/utf8.first", laid_unicode_utf8_first)] }
def ScriptMatchesSpecSaid : Prop := scriptMatchesSpecRow.holds Tryz.pinned (OpenSpec.ofChange scriptMatchesSpecSpec)

/-- ITS FALSE NEIGHBOUR: 'it returns false'. Refute it at one input. -/
def scriptMatchesSpecWrong : ChangeSpec := { name := "scriptMatchesSpec", fn := fun _ => fun
  | [d1, d2, d3] => { results := [.lit (.bool false)], args := [d1, d2, d3] }
  | _ => none }
def ScriptMatchesSpecWrongFalsely : Prop := scriptMatchesSpecRow.holds Tryz.pinned (OpenSpec.ofChange scriptMatchesSpecWrong)

/-- 'solventlaw46.ScriptDecodeMatchesSpec': WHATEVER THE INPUT: true; the input reads as it did. -/
def scriptDecodeMatchesSpecSpec : ChangeSpec := { name := "scriptDecodeMatchesSpec", fn := fun _ => fun
  | [d] => { results := [.lit (.bool true)], args := [d] }
  | _ => none }
def scriptDecodeMatchesSpecRow : OpenClaim := { program := "ytdfhbnfhkckkbaagreatdoor", sum := "9aceac4e6af6f89abb9340488c60b8f9b63767ad7c89eea403616f80a2ba8ee9", func := "solvent/solventlaw46.ScriptDecodeMatchesSpec", spec := "scriptDecodeMatchesSpec", inPlace := ["internal/abi.NoEscape", "internal/bytealg.MakeNoZero", "internal/bytealg.CountString", "internal/bytealg.IndexByteString", "internal/bytealg.IndexString"], unfollowed := true, recurses := true, named := ["solvent/script.kinds", "internal/strconv.uint64pow10", "math/bits.deBruijn32tab", "math/bits.deBruijn64tab", "unicode/utf8.first", "unicode/utf8.acceptRanges", "internal/bytealg.MaxLen", "strconv.ErrSyntax", "strconv.ErrRange"], apart := false, laid := [("math/bits.deBruijn32tab", laid_math_bits_deBruijn32tab), ("math/bits.deBruijn64tab", laid_math_bits_deBruijn64tab), ("internal/strconv.uint64pow10", laid_internal_strconv_uint64pow10), ("unicode/utf8.acceptRanges", laid_unicode_utf8_acceptRanges), ("strconv.ErrRange", laid_strconv_ErrRange), ("strconv.ErrSyntax", laid_strconv_ErrSyntax), ("solvent/script.kinds", laid_solvent_script_kinds), ("unicode/utf8.first", laid_unicode_utf8_first)] }
def ScriptDecodeMatchesSpecSaid : Prop := scriptDecodeMatchesSpecRow.holds Tryz.pinned (OpenSpec.ofChange scriptDecodeMatchesSpecSpec)

/-- ITS FALSE NEIGHBOUR: 'it returns false'. Refute it at one input. -/
def scriptDecodeMatchesSpecWrong : ChangeSpec := { name := "scriptDecodeMatchesSpec", fn := fun _ => fun
  | [d] => { results := [.lit (.bool false)], args := [d] }
  | _ => none }
def ScriptDecodeMatchesSpecWrongFalsely : Prop := scriptDecodeMatchesSpecRow.holds Tryz.pinned (OpenSpec.ofChange scriptDecodeMatchesSpecWrong)

/-- 'solventlaw46.ScriptParseMatchesSpec': WHATEVER THE INPUT: true; the input reads as it did. -/
def scriptParseMatchesSpecSpec : ChangeSpec := { name := "scriptParseMatchesSpec", fn := fun _ => fun
  | [d] => { results := [.lit (.bool true)], args := [d] }
  | _ => none }
def scriptParseMatchesSpecRow : OpenClaim := { program := "ytdfhbnfhkckkbaagreatdoor", sum := "9aceac4e6af6f89abb9340488c60b8f9b63767ad7c89eea403616f80a2ba8ee9", func := "solvent/solventlaw46.ScriptParseMatchesSpec", spec := "scriptParseMatchesSpec", inPlace := ["internal/abi.NoEscape", "internal/bytealg.MakeNoZero", "internal/bytealg.CountString", "internal/bytealg.IndexByteString", "internal/bytealg.IndexString"], unfollowed := true, recurses := true, named := ["solvent/script.kinds", "internal/strconv.uint64pow10", "math/bits.deBruijn32tab", "math/bits.deBruijn64tab", "unicode/utf8.first", "unicode/utf8.acceptRanges", "internal/bytealg.MaxLen", "strconv.ErrSyntax", "strconv.ErrRange"], apart := false, laid := [("math/bits.deBruijn32tab", laid_math_bits_deBruijn32tab), ("math/bits.deBruijn64tab", laid_math_bits_deBruijn64tab), ("internal/strconv.uint64pow10", laid_internal_strconv_uint64pow10), ("unicode/utf8.acceptRanges", laid_unicode_utf8_acceptRanges), ("strconv.ErrRange", laid_strconv_ErrRange), ("strconv.ErrSyntax", laid_strconv_ErrSyntax), ("solvent/script.kinds", laid_solvent_script_kinds), ("unicode/utf8.first", laid_unicode_utf8_first)] }
def ScriptParseMatchesSpecSaid : Prop := scriptParseMatchesSpecRow.holds Tryz.pinned (OpenSpec.ofChange scriptParseMatchesSpecSpec)

/-- ITS FALSE NEIGHBOUR: 'it returns false'. Refute it at one input. -/
def scriptParseMatchesSpecWrong : ChangeSpec := { name := "scriptParseMatchesSpec", fn := fun _ => fun
  | [d] => { results := [.lit (.bool false)], args := [d] }
  | _ => none }
def ScriptParseMatchesSpecWrongFalsely : Prop := scriptParseMatchesSpecRow.holds Tryz.pinned (OpenSpec.ofChange scriptParseMatchesSpecWrong)

/-- 'solventlaw46.ScriptRoundTrip': WHATEVER THE INPUT: true; the input reads as it did. -/
def scriptRoundTripSpec : ChangeSpec := { name := "scriptRoundTrip", fn := fun _ => fun
  | [d] => { results := [.lit (.bool true)], args := [d] }
  | _ => none }
def scriptRoundTripRow : OpenClaim := { program := "ytdfhbnfhkckkbaagreatdoor", sum := "9aceac4e6af6f89abb9340488c60b8f9b63767ad7c89eea403616f80a2ba8ee9", func := "solvent/solventlaw46.ScriptRoundTrip", spec := "scriptRoundTrip", inPlace := ["internal/abi.NoEscape", "internal/bytealg.MakeNoZero", "internal/bytealg.CountString", "internal/bytealg.IndexByteString", "internal/bytealg.IndexString"], unfollowed := true, recurses := true, named := ["solvent/script.kinds", "internal/strconv.uint64pow10", "math/bits.deBruijn32tab", "math/bits.deBruijn64tab", "unicode/utf8.first", "unicode/utf8.acceptRanges", "internal/bytealg.MaxLen", "strconv.ErrSyntax", "strconv.ErrRange"], apart := false, laid := [("math/bits.deBruijn32tab", laid_math_bits_deBruijn32tab), ("math/bits.deBruijn64tab", laid_math_bits_deBruijn64tab), ("internal/strconv.uint64pow10", laid_internal_strconv_uint64pow10), ("unicode/utf8.acceptRanges", laid_unicode_utf8_acceptRanges), ("strconv.ErrRange", laid_strconv_ErrRange), ("strconv.ErrSyntax", laid_strconv_ErrSyntax), ("solvent/script.kinds", laid_solvent_script_kinds), ("unicode/utf8.first", laid_unicode_utf8_first)] }
def ScriptRoundTripSaid : Prop := scriptRoundTripRow.holds Tryz.pinned (OpenSpec.ofChange scriptRoundTripSpec)

/-- ITS FALSE NEIGHBOUR: 'it returns false'. Refute it at one input. -/
def scriptRoundTripWrong : ChangeSpec := { name := "scriptRoundTrip", fn := fun _ => fun
  | [d] => { results := [.lit (.bool false)], args := [d] }
  | _ => none }
def ScriptRoundTripWrongFalsely : Prop := scriptRoundTripRow.holds Tryz.pinned (OpenSpec.ofChange scriptRoundTripWrong)

/-- 'solventlaw46.ScriptCanonical': WHATEVER THE INPUT: true; the input reads as it did. -/
def scriptCanonicalSpec : ChangeSpec := { name := "scriptCanonical", fn := fun _ => fun
  | [d] => { results := [.lit (.bool true)], args := [d] }
  | _ => none }
def scriptCanonicalRow : OpenClaim := { program := "ytdfhbnfhkckkbaagreatdoor", sum := "9aceac4e6af6f89abb9340488c60b8f9b63767ad7c89eea403616f80a2ba8ee9", func := "solvent/solventlaw46.ScriptCanonical", spec := "scriptCanonical", inPlace := ["internal/abi.NoEscape", "internal/bytealg.MakeNoZero", "internal/bytealg.CountString", "internal/bytealg.IndexByteString", "internal/bytealg.IndexString"], unfollowed := true, recurses := true, named := ["solvent/script.kinds", "internal/strconv.uint64pow10", "math/bits.deBruijn32tab", "math/bits.deBruijn64tab", "unicode/utf8.first", "unicode/utf8.acceptRanges", "internal/bytealg.MaxLen", "strconv.ErrSyntax", "strconv.ErrRange"], apart := false, laid := [("math/bits.deBruijn32tab", laid_math_bits_deBruijn32tab), ("math/bits.deBruijn64tab", laid_math_bits_deBruijn64tab), ("internal/strconv.uint64pow10", laid_internal_strconv_uint64pow10), ("unicode/utf8.acceptRanges", laid_unicode_utf8_acceptRanges), ("strconv.ErrRange", laid_strconv_ErrRange), ("strconv.ErrSyntax", laid_strconv_ErrSyntax), ("solvent/script.kinds", laid_solvent_script_kinds), ("unicode/utf8.first", laid_unicode_utf8_first)] }
def ScriptCanonicalSaid : Prop := scriptCanonicalRow.holds Tryz.pinned (OpenSpec.ofChange scriptCanonicalSpec)

/-- ITS FALSE NEIGHBOUR: 'it returns false'. Refute it at one input. -/
def scriptCanonicalWrong : ChangeSpec := { name := "scriptCanonical", fn := fun _ => fun
  | [d] => { results := [.lit (.bool false)], args := [d] }
  | _ => none }
def ScriptCanonicalWrongFalsely : Prop := scriptCanonicalRow.holds Tryz.pinned (OpenSpec.ofChange scriptCanonicalWrong)

/-- 'solventlaw46.ScriptUnits': WHATEVER THE INPUT: true; the input reads as it did. -/
def scriptUnitsSpec : ChangeSpec := { name := "scriptUnits", fn := fun _ => fun
  | [d1, d2] => { results := [.lit (.bool true)], args := [d1, d2] }
  | _ => none }
def scriptUnitsRow : OpenClaim := { program := "ytdfhbnfhkckkbaagreatdoor", sum := "9aceac4e6af6f89abb9340488c60b8f9b63767ad7c89eea403616f80a2ba8ee9", func := "solvent/solventlaw46.ScriptUnits", spec := "scriptUnits", inPlace := ["internal/abi.NoEscape", "internal/bytealg.MakeNoZero", "internal/bytealg.CountString", "internal/bytealg.IndexByteString", "internal/bytealg.IndexString"], unfollowed := true, recurses := true, named := ["solvent/script.kinds", "internal/strconv.uint64pow10", "math/bits.deBruijn32tab", "math/bits.deBruijn64tab", "unicode/utf8.first", "unicode/utf8.acceptRanges", "internal/bytealg.MaxLen", "strconv.ErrSyntax", "strconv.ErrRange"], apart := false, laid := [("math/bits.deBruijn32tab", laid_math_bits_deBruijn32tab), ("math/bits.deBruijn64tab", laid_math_bits_deBruijn64tab), ("internal/strconv.uint64pow10", laid_internal_strconv_uint64pow10), ("unicode/utf8.acceptRanges", laid_unicode_utf8_acceptRanges), ("strconv.ErrRange", laid_strconv_ErrRange), ("strconv.ErrSyntax", laid_strconv_ErrSyntax), ("solvent/script.kinds", laid_solvent_script_kinds), ("unicode/utf8.first", laid_unicode_utf8_first)] }
def ScriptUnitsSaid : Prop := scriptUnitsRow.holds Tryz.pinned (OpenSpec.ofChange scriptUnitsSpec)

/-- ITS FALSE NEIGHBOUR: 'it returns false'. Refute it at one input. -/
def scriptUnitsWrong : ChangeSpec := { name := "scriptUnits", fn := fun _ => fun
  | [d1, d2] => { results := [.lit (.bool false)], args := [d1, d2] }
  | _ => none }
def ScriptUnitsWrongFalsely : Prop := scriptUnitsRow.holds Tryz.pinned (OpenSpec.ofChange scriptUnitsWrong)

/-- 'solventlaw46.ScriptPrefix': WHATEVER THE INPUT: true; the input reads as it did. -/
def scriptPrefixSpec : ChangeSpec := { name := "scriptPrefix", fn := fun _ => fun
  | [d1, d2] => { results := [.lit (.bool true)], args := [d1, d2] }
  | _ => none }
def scriptPrefixRow : OpenClaim := { program := "ytdfhbnfhkckkbaagreatdoor", sum := "9aceac4e6af6f89abb9340488c60b8f9b63767ad7c89eea403616f80a2ba8ee9", func := "solvent/solventlaw46.ScriptPrefix", spec := "scriptPrefix", inPlace := ["internal/abi.NoEscape", "internal/bytealg.MakeNoZero", "internal/bytealg.CountString", "internal/bytealg.IndexByteString", "internal/bytealg.IndexString"], unfollowed := true, recurses := true, named := ["solvent/script.kinds", "internal/strconv.uint64pow10", "math/bits.deBruijn32tab", "math/bits.deBruijn64tab", "unicode/utf8.first", "unicode/utf8.acceptRanges", "internal/bytealg.MaxLen", "strconv.ErrSyntax", "strconv.ErrRange"], apart := false, laid := [("math/bits.deBruijn32tab", laid_math_bits_deBruijn32tab), ("math/bits.deBruijn64tab", laid_math_bits_deBruijn64tab), ("internal/strconv.uint64pow10", laid_internal_strconv_uint64pow10), ("unicode/utf8.acceptRanges", laid_unicode_utf8_acceptRanges), ("strconv.ErrRange", laid_strconv_ErrRange), ("strconv.ErrSyntax", laid_strconv_ErrSyntax), ("solvent/script.kinds", laid_solvent_script_kinds), ("unicode/utf8.first", laid_unicode_utf8_first)] }
def ScriptPrefixSaid : Prop := scriptPrefixRow.holds Tryz.pinned (OpenSpec.ofChange scriptPrefixSpec)

/-- ITS FALSE NEIGHBOUR: 'it returns false'. Refute it at one input. -/
def scriptPrefixWrong : ChangeSpec := { name := "scriptPrefix", fn := fun _ => fun
  | [d1, d2] => { results := [.lit (.bool false)], args := [d1, d2] }
  | _ => none }
def ScriptPrefixWrongFalsely : Prop := scriptPrefixRow.holds Tryz.pinned (OpenSpec.ofChange scriptPrefixWrong)

/- THE SECOND FORM. 'bulk': how many values and letters a reading holds, each counted each time it is reached (what is shared counts as often as it is met; a slice's spare places count too). A statement '..UptoSaid' is the law's where the arguments, and the package variables that the reading takes, are together of bulk at most 1048576: NARROWER than '..Said'. Prove '..Said' where nothing that the law and all that it calls make is longer than what came in: it says more and counts as full. Else prove '..UptoSaid'. A law counts once. -/
mutual
def uptoBulk {H : Type} : DataW H → Nat
  | .lit (.string bytes) => bytes.length + 1
  | .lit _ => 1
  | .nil => 1
  | .ptr d => uptoBulk d + 1
  | .slice elems spare => uptoBulkAll elems + uptoBulkAll spare + 1
  | .agg parts => uptoBulkAll parts + 1
  | .iface _ d => uptoBulk d + 1
  | .map entries => uptoBulkEntries entries + 1
  | .held _ => 1
def uptoBulkAll {H : Type} : List (DataW H) → Nat
  | [] => 0
  | d :: r => uptoBulk d + uptoBulkAll r
def uptoBulkEntries {H : Type} : List (Lit × DataW H) → Nat
  | [] => 0
  | x :: r => uptoBulkEntry x + uptoBulkEntries r
def uptoBulkEntry {H : Type} : Lit × DataW H → Nat
  | (.string bytes, d) => bytes.length + uptoBulk d + 1
  | (_, d) => uptoBulk d + 1
 end
def uptoSmall : (H : Type) → List (DataW H) → Bool := fun _ ds => decide (uptoBulkAll ds ≤ 1048576)
def OpenSpec.upto (s : _root_.Go.ChangeSpec) : _root_.Go.OpenSpec := { _root_.Go.OpenSpec.ofChange s with cond := some uptoSmall }

/-- 'solventlaw46.ScriptMatchesSpec', WHERE WHAT IT READS IS OF BULK AT MOST 1048576: true; the input reads as it did. -/
def scriptMatchesSpecUptoRow : OpenClaim := { program := "ytdfhbnfhkckkbaagreatdoor", sum := "9aceac4e6af6f89abb9340488c60b8f9b63767ad7c89eea403616f80a2ba8ee9", func := "solvent/solventlaw46.ScriptMatchesSpec", spec := "scriptMatchesSpec", inPlace := ["internal/abi.NoEscape", "internal/bytealg.MakeNoZero", "internal/bytealg.CountString", "internal/bytealg.IndexByteString", "internal/bytealg.IndexString"], unfollowed := true, recurses := true, named := ["solvent/script.kinds", "internal/strconv.uint64pow10", "math/bits.deBruijn32tab", "math/bits.deBruijn64tab", "unicode/utf8.first", "unicode/utf8.acceptRanges", "internal/bytealg.MaxLen", "strconv.ErrSyntax", "strconv.ErrRange"], apart := false, laid := [("math/bits.deBruijn32tab", laid_math_bits_deBruijn32tab), ("math/bits.deBruijn64tab", laid_math_bits_deBruijn64tab), ("internal/strconv.uint64pow10", laid_internal_strconv_uint64pow10), ("unicode/utf8.acceptRanges", laid_unicode_utf8_acceptRanges), ("strconv.ErrRange", laid_strconv_ErrRange), ("strconv.ErrSyntax", laid_strconv_ErrSyntax), ("solvent/script.kinds", laid_solvent_script_kinds), ("unicode/utf8.first", laid_unicode_utf8_first)], narrowed := true }
def ScriptMatchesSpecUptoSaid : Prop := scriptMatchesSpecUptoRow.holds Tryz.pinned (OpenSpec.upto scriptMatchesSpecSpec)

/-- 'solventlaw46.ScriptDecodeMatchesSpec', WHERE WHAT IT READS IS OF BULK AT MOST 1048576: true; the input reads as it did. -/
def scriptDecodeMatchesSpecUptoRow : OpenClaim := { program := "ytdfhbnfhkckkbaagreatdoor", sum := "9aceac4e6af6f89abb9340488c60b8f9b63767ad7c89eea403616f80a2ba8ee9", func := "solvent/solventlaw46.ScriptDecodeMatchesSpec", spec := "scriptDecodeMatchesSpec", inPlace := ["internal/abi.NoEscape", "internal/bytealg.MakeNoZero", "internal/bytealg.CountString", "internal/bytealg.IndexByteString", "internal/bytealg.IndexString"], unfollowed := true, recurses := true, named := ["solvent/script.kinds", "internal/strconv.uint64pow10", "math/bits.deBruijn32tab", "math/bits.deBruijn64tab", "unicode/utf8.first", "unicode/utf8.acceptRanges", "internal/bytealg.MaxLen", "strconv.ErrSyntax", "strconv.ErrRange"], apart := false, laid := [("math/bits.deBruijn32tab", laid_math_bits_deBruijn32tab), ("math/bits.deBruijn64tab", laid_math_bits_deBruijn64tab), ("internal/strconv.uint64pow10", laid_internal_strconv_uint64pow10), ("unicode/utf8.acceptRanges", laid_unicode_utf8_acceptRanges), ("strconv.ErrRange", laid_strconv_ErrRange), ("strconv.ErrSyntax", laid_strconv_ErrSyntax), ("solvent/script.kinds", laid_solvent_script_kinds), ("unicode/utf8.first", laid_unicode_utf8_first)], narrowed := true }
def ScriptDecodeMatchesSpecUptoSaid : Prop := scriptDecodeMatchesSpecUptoRow.holds Tryz.pinned (OpenSpec.upto scriptDecodeMatchesSpecSpec)

/-- 'solventlaw46.ScriptParseMatchesSpec', WHERE WHAT IT READS IS OF BULK AT MOST 1048576: true; the input reads as it did. -/
def scriptParseMatchesSpecUptoRow : OpenClaim := { program := "ytdfhbnfhkckkbaagreatdoor", sum := "9aceac4e6af6f89abb9340488c60b8f9b63767ad7c89eea403616f80a2ba8ee9", func := "solvent/solventlaw46.ScriptParseMatchesSpec", spec := "scriptParseMatchesSpec", inPlace := ["internal/abi.NoEscape", "internal/bytealg.MakeNoZero", "internal/bytealg.CountString", "internal/bytealg.IndexByteString", "internal/bytealg.IndexString"], unfollowed := true, recurses := true, named := ["solvent/script.kinds", "internal/strconv.uint64pow10", "math/bits.deBruijn32tab", "math/bits.deBruijn64tab", "unicode/utf8.first", "unicode/utf8.acceptRanges", "internal/bytealg.MaxLen", "strconv.ErrSyntax", "strconv.ErrRange"], apart := false, laid := [("math/bits.deBruijn32tab", laid_math_bits_deBruijn32tab), ("math/bits.deBruijn64tab", laid_math_bits_deBruijn64tab), ("internal/strconv.uint64pow10", laid_internal_strconv_uint64pow10), ("unicode/utf8.acceptRanges", laid_unicode_utf8_acceptRanges), ("strconv.ErrRange", laid_strconv_ErrRange), ("strconv.ErrSyntax", laid_strconv_ErrSyntax), ("solvent/script.kinds", laid_solvent_script_kinds), ("unicode/utf8.first", laid_unicode_utf8_first)], narrowed := true }
def ScriptParseMatchesSpecUptoSaid : Prop := scriptParseMatchesSpecUptoRow.holds Tryz.pinned (OpenSpec.upto scriptParseMatchesSpecSpec)

/-- 'solventlaw46.ScriptRoundTrip', WHERE WHAT IT READS IS OF BULK AT MOST 1048576: true; the input reads as it did. -/
def scriptRoundTripUptoRow : OpenClaim := { program := "ytdfhbnfhkckkbaagreatdoor", sum := "9aceac4e6af6f89abb9340488c60b8f9b63767ad7c89eea403616f80a2ba8ee9", func := "solvent/solventlaw46.ScriptRoundTrip", spec := "scriptRoundTrip", inPlace := ["internal/abi.NoEscape", "internal/bytealg.MakeNoZero", "internal/bytealg.CountString", "internal/bytealg.IndexByteString", "internal/bytealg.IndexString"], unfollowed := true, recurses := true, named := ["solvent/script.kinds", "internal/strconv.uint64pow10", "math/bits.deBruijn32tab", "math/bits.deBruijn64tab", "unicode/utf8.first", "unicode/utf8.acceptRanges", "internal/bytealg.MaxLen", "strconv.ErrSyntax", "strconv.ErrRange"], apart := false, laid := [("math/bits.deBruijn32tab", laid_math_bits_deBruijn32tab), ("math/bits.deBruijn64tab", laid_math_bits_deBruijn64tab), ("internal/strconv.uint64pow10", laid_internal_strconv_uint64pow10), ("unicode/utf8.acceptRanges", laid_unicode_utf8_acceptRanges), ("strconv.ErrRange", laid_strconv_ErrRange), ("strconv.ErrSyntax", laid_strconv_ErrSyntax), ("solvent/script.kinds", laid_solvent_script_kinds), ("unicode/utf8.first", laid_unicode_utf8_first)], narrowed := true }
def ScriptRoundTripUptoSaid : Prop := scriptRoundTripUptoRow.holds Tryz.pinned (OpenSpec.upto scriptRoundTripSpec)

/-- 'solventlaw46.ScriptCanonical', WHERE WHAT IT READS IS OF BULK AT MOST 1048576: true; the input reads as it did. -/
def scriptCanonicalUptoRow : OpenClaim := { program := "ytdfhbnfhkckkbaagreatdoor", sum := "9aceac4e6af6f89abb9340488c60b8f9b63767ad7c89eea403616f80a2ba8ee9", func := "solvent/solventlaw46.ScriptCanonical", spec := "scriptCanonical", inPlace := ["internal/abi.NoEscape", "internal/bytealg.MakeNoZero", "internal/bytealg.CountString", "internal/bytealg.IndexByteString", "internal/bytealg.IndexString"], unfollowed := true, recurses := true, named := ["solvent/script.kinds", "internal/strconv.uint64pow10", "math/bits.deBruijn32tab", "math/bits.deBruijn64tab", "unicode/utf8.first", "unicode/utf8.acceptRanges", "internal/bytealg.MaxLen", "strconv.ErrSyntax", "strconv.ErrRange"], apart := false, laid := [("math/bits.deBruijn32tab", laid_math_bits_deBruijn32tab), ("math/bits.deBruijn64tab", laid_math_bits_deBruijn64tab), ("internal/strconv.uint64pow10", laid_internal_strconv_uint64pow10), ("unicode/utf8.acceptRanges", laid_unicode_utf8_acceptRanges), ("strconv.ErrRange", laid_strconv_ErrRange), ("strconv.ErrSyntax", laid_strconv_ErrSyntax), ("solvent/script.kinds", laid_solvent_script_kinds), ("unicode/utf8.first", laid_unicode_utf8_first)], narrowed := true }
def ScriptCanonicalUptoSaid : Prop := scriptCanonicalUptoRow.holds Tryz.pinned (OpenSpec.upto scriptCanonicalSpec)

/-- 'solventlaw46.ScriptUnits', WHERE WHAT IT READS IS OF BULK AT MOST 1048576: true; the input reads as it did. -/
def scriptUnitsUptoRow : OpenClaim := { program := "ytdfhbnfhkckkbaagreatdoor", sum := "9aceac4e6af6f89abb9340488c60b8f9b63767ad7c89eea403616f80a2ba8ee9", func := "solvent/solventlaw46.ScriptUnits", spec := "scriptUnits", inPlace := ["internal/abi.NoEscape", "internal/bytealg.MakeNoZero", "internal/bytealg.CountString", "internal/bytealg.IndexByteString", "internal/bytealg.IndexString"], unfollowed := true, recurses := true, named := ["solvent/script.kinds", "internal/strconv.uint64pow10", "math/bits.deBruijn32tab", "math/bits.deBruijn64tab", "unicode/utf8.first", "unicode/utf8.acceptRanges", "internal/bytealg.MaxLen", "strconv.ErrSyntax", "strconv.ErrRange"], apart := false, laid := [("math/bits.deBruijn32tab", laid_math_bits_deBruijn32tab), ("math/bits.deBruijn64tab", laid_math_bits_deBruijn64tab), ("internal/strconv.uint64pow10", laid_internal_strconv_uint64pow10), ("unicode/utf8.acceptRanges", laid_unicode_utf8_acceptRanges), ("strconv.ErrRange", laid_strconv_ErrRange), ("strconv.ErrSyntax", laid_strconv_ErrSyntax), ("solvent/script.kinds", laid_solvent_script_kinds), ("unicode/utf8.first", laid_unicode_utf8_first)], narrowed := true }
def ScriptUnitsUptoSaid : Prop := scriptUnitsUptoRow.holds Tryz.pinned (OpenSpec.upto scriptUnitsSpec)

/-- 'solventlaw46.ScriptPrefix', WHERE WHAT IT READS IS OF BULK AT MOST 1048576: true; the input reads as it did. -/
def scriptPrefixUptoRow : OpenClaim := { program := "ytdfhbnfhkckkbaagreatdoor", sum := "9aceac4e6af6f89abb9340488c60b8f9b63767ad7c89eea403616f80a2ba8ee9", func := "solvent/solventlaw46.ScriptPrefix", spec := "scriptPrefix", inPlace := ["internal/abi.NoEscape", "internal/bytealg.MakeNoZero", "internal/bytealg.CountString", "internal/bytealg.IndexByteString", "internal/bytealg.IndexString"], unfollowed := true, recurses := true, named := ["solvent/script.kinds", "internal/strconv.uint64pow10", "math/bits.deBruijn32tab", "math/bits.deBruijn64tab", "unicode/utf8.first", "unicode/utf8.acceptRanges", "internal/bytealg.MaxLen", "strconv.ErrSyntax", "strconv.ErrRange"], apart := false, laid := [("math/bits.deBruijn32tab", laid_math_bits_deBruijn32tab), ("math/bits.deBruijn64tab", laid_math_bits_deBruijn64tab), ("internal/strconv.uint64pow10", laid_internal_strconv_uint64pow10), ("unicode/utf8.acceptRanges", laid_unicode_utf8_acceptRanges), ("strconv.ErrRange", laid_strconv_ErrRange), ("strconv.ErrSyntax", laid_strconv_ErrSyntax), ("solvent/script.kinds", laid_solvent_script_kinds), ("unicode/utf8.first", laid_unicode_utf8_first)], narrowed := true }
def ScriptPrefixUptoSaid : Prop := scriptPrefixUptoRow.holds Tryz.pinned (OpenSpec.upto scriptPrefixSpec)

end Rows
end Go.Proofs.YtdfhbnfhkckkbaaGreatDoor
