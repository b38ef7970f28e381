/-
  DERIVED. GIVEN WITH THE SEED: THE CARDS: each row of YtdfhbnfhkckkbaaGreatDoorRows.lean that lists a variable, with what it lists TIED to the program's text (the seventh form; the later family's looks); each row that meets fmt, with fmt's text TOLD by the authors' own Lean function (tested against real Go, not proved from fmt's source: count such statements apart). THE CARD IS WHAT COUNTS. Prove the row's statement (the work); the ties are given (YtdfhbnfhkckkbaaGreatDoorTie.lean); close each card by the builder's one call (the guide's Derived/Test/ToyasCard.lean, 'card_holds'). Laid BY PROGRAM, IN A SANDBOX (cutbox-door.mjs). By AI agents, Wed Nov 11 2026. No macro, syntax, notation, axiom, sorry.
-/
import Derived.Test.YtdfhbnfhkckkbaaGreatDoorRows
import GoSem.ClaimSeven
namespace Go.Proofs.YtdfhbnfhkckkbaaGreatDoor
namespace Rows

/-- THE TIED CARD OF 'solventlaw46.ScriptMatchesSpec'. -/
def scriptMatchesSpecCard : Claim7 := { stood := { row := scriptMatchesSpecRow, standIns := [], harness := (true, "0a2d93ca3369db707055f292ebabadb184a746756c5e780ac201985eeada2de3"), looks := true }, kinds := [], alts := [], laidByText := true, laidKinds := [.data, .data, .data, .data, .sentinel, .sentinel, .widerDeep, .pinned], laidTests := true, laidLooks := .later }
def ScriptMatchesSpecCardSaid : Prop := Claim7.holds Tryz.pinned (.plain (OpenSpec.ofChange scriptMatchesSpecSpec)) scriptMatchesSpecCard

/-- THE TIED CARD OF 'solventlaw46.ScriptDecodeMatchesSpec'. -/
def scriptDecodeMatchesSpecCard : Claim7 := { stood := { row := scriptDecodeMatchesSpecRow, standIns := [], harness := (true, "0a2d93ca3369db707055f292ebabadb184a746756c5e780ac201985eeada2de3"), looks := true }, kinds := [], alts := [], laidByText := true, laidKinds := [.data, .data, .data, .data, .sentinel, .sentinel, .widerDeep, .pinned], laidTests := true, laidLooks := .later }
def ScriptDecodeMatchesSpecCardSaid : Prop := Claim7.holds Tryz.pinned (.plain (OpenSpec.ofChange scriptDecodeMatchesSpecSpec)) scriptDecodeMatchesSpecCard

/-- THE TIED CARD OF 'solventlaw46.ScriptParseMatchesSpec'. -/
def scriptParseMatchesSpecCard : Claim7 := { stood := { row := scriptParseMatchesSpecRow, standIns := [], harness := (true, "0a2d93ca3369db707055f292ebabadb184a746756c5e780ac201985eeada2de3"), looks := true }, kinds := [], alts := [], laidByText := true, laidKinds := [.data, .data, .data, .data, .sentinel, .sentinel, .widerDeep, .pinned], laidTests := true, laidLooks := .later }
def ScriptParseMatchesSpecCardSaid : Prop := Claim7.holds Tryz.pinned (.plain (OpenSpec.ofChange scriptParseMatchesSpecSpec)) scriptParseMatchesSpecCard

/-- THE TIED CARD OF 'solventlaw46.ScriptRoundTrip'. -/
def scriptRoundTripCard : Claim7 := { stood := { row := scriptRoundTripRow, standIns := [], harness := (true, "0a2d93ca3369db707055f292ebabadb184a746756c5e780ac201985eeada2de3"), looks := true }, kinds := [], alts := [], laidByText := true, laidKinds := [.data, .data, .data, .data, .sentinel, .sentinel, .widerDeep, .pinned], laidTests := true, laidLooks := .later }
def ScriptRoundTripCardSaid : Prop := Claim7.holds Tryz.pinned (.plain (OpenSpec.ofChange scriptRoundTripSpec)) scriptRoundTripCard

/-- THE TIED CARD OF 'solventlaw46.ScriptCanonical'. -/
def scriptCanonicalCard : Claim7 := { stood := { row := scriptCanonicalRow, standIns := [], harness := (true, "0a2d93ca3369db707055f292ebabadb184a746756c5e780ac201985eeada2de3"), looks := true }, kinds := [], alts := [], laidByText := true, laidKinds := [.data, .data, .data, .data, .sentinel, .sentinel, .widerDeep, .pinned], laidTests := true, laidLooks := .later }
def ScriptCanonicalCardSaid : Prop := Claim7.holds Tryz.pinned (.plain (OpenSpec.ofChange scriptCanonicalSpec)) scriptCanonicalCard

/-- THE TIED CARD OF 'solventlaw46.ScriptUnits'. -/
def scriptUnitsCard : Claim7 := { stood := { row := scriptUnitsRow, standIns := [], harness := (true, "0a2d93ca3369db707055f292ebabadb184a746756c5e780ac201985eeada2de3"), looks := true }, kinds := [], alts := [], laidByText := true, laidKinds := [.data, .data, .data, .data, .sentinel, .sentinel, .widerDeep, .pinned], laidTests := true, laidLooks := .later }
def ScriptUnitsCardSaid : Prop := Claim7.holds Tryz.pinned (.plain (OpenSpec.ofChange scriptUnitsSpec)) scriptUnitsCard

/-- THE TIED CARD OF 'solventlaw46.ScriptPrefix'. -/
def scriptPrefixCard : Claim7 := { stood := { row := scriptPrefixRow, standIns := [], harness := (true, "0a2d93ca3369db707055f292ebabadb184a746756c5e780ac201985eeada2de3"), looks := true }, kinds := [], alts := [], laidByText := true, laidKinds := [.data, .data, .data, .data, .sentinel, .sentinel, .widerDeep, .pinned], laidTests := true, laidLooks := .later }
def ScriptPrefixCardSaid : Prop := Claim7.holds Tryz.pinned (.plain (OpenSpec.ofChange scriptPrefixSpec)) scriptPrefixCard

/-- THE SECOND FORM's CARD OF 'solventlaw46.ScriptMatchesSpec'. -/
def scriptMatchesSpecUptoCard : Claim7 := { stood := { row := scriptMatchesSpecUptoRow, standIns := [], harness := (true, "0a2d93ca3369db707055f292ebabadb184a746756c5e780ac201985eeada2de3"), looks := true }, kinds := [], alts := [], laidByText := true, laidKinds := [.data, .data, .data, .data, .sentinel, .sentinel, .widerDeep, .pinned], laidTests := true, laidLooks := .later }
def ScriptMatchesSpecUptoCardSaid : Prop := Claim7.holds Tryz.pinned (.plain (OpenSpec.upto scriptMatchesSpecSpec)) scriptMatchesSpecUptoCard

/-- THE SECOND FORM's CARD OF 'solventlaw46.ScriptDecodeMatchesSpec'. -/
def scriptDecodeMatchesSpecUptoCard : Claim7 := { stood := { row := scriptDecodeMatchesSpecUptoRow, standIns := [], harness := (true, "0a2d93ca3369db707055f292ebabadb184a746756c5e780ac201985eeada2de3"), looks := true }, kinds := [], alts := [], laidByText := true, laidKinds := [.data, .data, .data, .data, .sentinel, .sentinel, .widerDeep, .pinned], laidTests := true, laidLooks := .later }
def ScriptDecodeMatchesSpecUptoCardSaid : Prop := Claim7.holds Tryz.pinned (.plain (OpenSpec.upto scriptDecodeMatchesSpecSpec)) scriptDecodeMatchesSpecUptoCard

/-- THE SECOND FORM's CARD OF 'solventlaw46.ScriptParseMatchesSpec'. -/
def scriptParseMatchesSpecUptoCard : Claim7 := { stood := { row := scriptParseMatchesSpecUptoRow, standIns := [], harness := (true, "0a2d93ca3369db707055f292ebabadb184a746756c5e780ac201985eeada2de3"), looks := true }, kinds := [], alts := [], laidByText := true, laidKinds := [.data, .data, .data, .data, .sentinel, .sentinel, .widerDeep, .pinned], laidTests := true, laidLooks := .later }
def ScriptParseMatchesSpecUptoCardSaid : Prop := Claim7.holds Tryz.pinned (.plain (OpenSpec.upto scriptParseMatchesSpecSpec)) scriptParseMatchesSpecUptoCard

/-- THE SECOND FORM's CARD OF 'solventlaw46.ScriptRoundTrip'. -/
def scriptRoundTripUptoCard : Claim7 := { stood := { row := scriptRoundTripUptoRow, standIns := [], harness := (true, "0a2d93ca3369db707055f292ebabadb184a746756c5e780ac201985eeada2de3"), looks := true }, kinds := [], alts := [], laidByText := true, laidKinds := [.data, .data, .data, .data, .sentinel, .sentinel, .widerDeep, .pinned], laidTests := true, laidLooks := .later }
def ScriptRoundTripUptoCardSaid : Prop := Claim7.holds Tryz.pinned (.plain (OpenSpec.upto scriptRoundTripSpec)) scriptRoundTripUptoCard

/-- THE SECOND FORM's CARD OF 'solventlaw46.ScriptCanonical'. -/
def scriptCanonicalUptoCard : Claim7 := { stood := { row := scriptCanonicalUptoRow, standIns := [], harness := (true, "0a2d93ca3369db707055f292ebabadb184a746756c5e780ac201985eeada2de3"), looks := true }, kinds := [], alts := [], laidByText := true, laidKinds := [.data, .data, .data, .data, .sentinel, .sentinel, .widerDeep, .pinned], laidTests := true, laidLooks := .later }
def ScriptCanonicalUptoCardSaid : Prop := Claim7.holds Tryz.pinned (.plain (OpenSpec.upto scriptCanonicalSpec)) scriptCanonicalUptoCard

/-- THE SECOND FORM's CARD OF 'solventlaw46.ScriptUnits'. -/
def scriptUnitsUptoCard : Claim7 := { stood := { row := scriptUnitsUptoRow, standIns := [], harness := (true, "0a2d93ca3369db707055f292ebabadb184a746756c5e780ac201985eeada2de3"), looks := true }, kinds := [], alts := [], laidByText := true, laidKinds := [.data, .data, .data, .data, .sentinel, .sentinel, .widerDeep, .pinned], laidTests := true, laidLooks := .later }
def ScriptUnitsUptoCardSaid : Prop := Claim7.holds Tryz.pinned (.plain (OpenSpec.upto scriptUnitsSpec)) scriptUnitsUptoCard

/-- THE SECOND FORM's CARD OF 'solventlaw46.ScriptPrefix'. -/
def scriptPrefixUptoCard : Claim7 := { stood := { row := scriptPrefixUptoRow, standIns := [], harness := (true, "0a2d93ca3369db707055f292ebabadb184a746756c5e780ac201985eeada2de3"), looks := true }, kinds := [], alts := [], laidByText := true, laidKinds := [.data, .data, .data, .data, .sentinel, .sentinel, .widerDeep, .pinned], laidTests := true, laidLooks := .later }
def ScriptPrefixUptoCardSaid : Prop := Claim7.holds Tryz.pinned (.plain (OpenSpec.upto scriptPrefixSpec)) scriptPrefixUptoCard
end Rows
end Go.Proofs.YtdfhbnfhkckkbaaGreatDoor
