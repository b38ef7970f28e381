/-
  DERIVED. GIVEN WITH THE SEED: THE CARDS: each row of YtimmffncfkcpfaaDoorRows.lean that lists a variable, with what it lists TIED to the program's text (the seventh form; the later family's looks); each row that meets fmt, with fmt's text TOLD by the authors' own Lean function (tested against real Go, not proved from fmt's source: count such statements apart). THE CARD IS WHAT COUNTS. Prove the row's statement (the work); the ties are given (YtimmffncfkcpfaaDoorTie.lean); close each card by the builder's one call (the guide's Derived/Test/ToyasCard.lean, 'card_holds'). Laid BY PROGRAM, IN A SANDBOX (cutbox-door.mjs). By AI agents, Wed Nov 11 2026. No macro, syntax, notation, axiom, sorry.
-/
import Derived.Test.YtimmffncfkcpfaaDoorRows
import GoSem.ClaimSeven
namespace Go.Proofs.YtimmffncfkcpfaaDoor
namespace Rows

/-- THE TIED CARD OF 'solventlaw29.TermsCheckMatchesSpec'. -/
def termsCheckMatchesSpecCard : Claim7 := { stood := { row := termsCheckMatchesSpecRow, standIns := [], harness := (true, "11a12747320d133941a5f7ddd04893b0a5f891ca49b8fd8f257d5e8719e95910"), looks := true }, kinds := [], alts := [], laidByText := true, laidKinds := [.data, .data, .data, .sentinel, .sentinel, .data], laidTests := true, laidLooks := .later }
def TermsCheckMatchesSpecCardSaid : Prop := Claim7.holds Tryd.pinned (.plain (OpenSpec.ofChange termsCheckMatchesSpecSpec)) termsCheckMatchesSpecCard

/-- THE TIED CARD OF 'solventlaw29.TermsRoundTrip'. -/
def termsRoundTripCard : Claim7 := { stood := { row := termsRoundTripRow, standIns := [], harness := (true, "11a12747320d133941a5f7ddd04893b0a5f891ca49b8fd8f257d5e8719e95910"), looks := true }, kinds := [], alts := [], laidByText := true, laidKinds := [.data, .data, .data, .sentinel, .sentinel, .data], laidTests := true, laidLooks := .later }
def TermsRoundTripCardSaid : Prop := Claim7.holds Tryd.pinned (.plain (OpenSpec.ofChange termsRoundTripSpec)) termsRoundTripCard

/-- THE TIED CARD OF 'solventlaw29.TermsParsedAreValid'. -/
def termsParsedAreValidCard : Claim7 := { stood := { row := termsParsedAreValidRow, standIns := [], harness := (true, "11a12747320d133941a5f7ddd04893b0a5f891ca49b8fd8f257d5e8719e95910"), looks := true }, kinds := [], alts := [], laidByText := true, laidKinds := [.data, .data, .data, .sentinel, .sentinel, .data], laidTests := true, laidLooks := .later }
def TermsParsedAreValidCardSaid : Prop := Claim7.holds Tryd.pinned (.plain (OpenSpec.ofChange termsParsedAreValidSpec)) termsParsedAreValidCard

/-- THE TIED CARD OF 'solventlaw29.TermsBlanksDoNotMatter'. -/
def termsBlanksDoNotMatterCard : Claim7 := { stood := { row := termsBlanksDoNotMatterRow, standIns := [], harness := (true, "11a12747320d133941a5f7ddd04893b0a5f891ca49b8fd8f257d5e8719e95910"), looks := true }, kinds := [], alts := [], laidByText := true, laidKinds := [.data, .data, .data, .sentinel, .sentinel, .data], laidTests := true, laidLooks := .later }
def TermsBlanksDoNotMatterCardSaid : Prop := Claim7.holds Tryd.pinned (.plain (OpenSpec.ofChange termsBlanksDoNotMatterSpec)) termsBlanksDoNotMatterCard

/-- THE SECOND FORM's CARD OF 'solventlaw29.TermsCheckMatchesSpec'. -/
def termsCheckMatchesSpecUptoCard : Claim7 := { stood := { row := termsCheckMatchesSpecUptoRow, standIns := [], harness := (true, "11a12747320d133941a5f7ddd04893b0a5f891ca49b8fd8f257d5e8719e95910"), looks := true }, kinds := [], alts := [], laidByText := true, laidKinds := [.data, .data, .data, .sentinel, .sentinel, .data], laidTests := true, laidLooks := .later }
def TermsCheckMatchesSpecUptoCardSaid : Prop := Claim7.holds Tryd.pinned (.plain (OpenSpec.upto termsCheckMatchesSpecSpec)) termsCheckMatchesSpecUptoCard

/-- THE SECOND FORM's CARD OF 'solventlaw29.TermsRoundTrip'. -/
def termsRoundTripUptoCard : Claim7 := { stood := { row := termsRoundTripUptoRow, standIns := [], harness := (true, "11a12747320d133941a5f7ddd04893b0a5f891ca49b8fd8f257d5e8719e95910"), looks := true }, kinds := [], alts := [], laidByText := true, laidKinds := [.data, .data, .data, .sentinel, .sentinel, .data], laidTests := true, laidLooks := .later }
def TermsRoundTripUptoCardSaid : Prop := Claim7.holds Tryd.pinned (.plain (OpenSpec.upto termsRoundTripSpec)) termsRoundTripUptoCard

/-- THE SECOND FORM's CARD OF 'solventlaw29.TermsParsedAreValid'. -/
def termsParsedAreValidUptoCard : Claim7 := { stood := { row := termsParsedAreValidUptoRow, standIns := [], harness := (true, "11a12747320d133941a5f7ddd04893b0a5f891ca49b8fd8f257d5e8719e95910"), looks := true }, kinds := [], alts := [], laidByText := true, laidKinds := [.data, .data, .data, .sentinel, .sentinel, .data], laidTests := true, laidLooks := .later }
def TermsParsedAreValidUptoCardSaid : Prop := Claim7.holds Tryd.pinned (.plain (OpenSpec.upto termsParsedAreValidSpec)) termsParsedAreValidUptoCard

/-- THE SECOND FORM's CARD OF 'solventlaw29.TermsBlanksDoNotMatter'. -/
def termsBlanksDoNotMatterUptoCard : Claim7 := { stood := { row := termsBlanksDoNotMatterUptoRow, standIns := [], harness := (true, "11a12747320d133941a5f7ddd04893b0a5f891ca49b8fd8f257d5e8719e95910"), looks := true }, kinds := [], alts := [], laidByText := true, laidKinds := [.data, .data, .data, .sentinel, .sentinel, .data], laidTests := true, laidLooks := .later }
def TermsBlanksDoNotMatterUptoCardSaid : Prop := Claim7.holds Tryd.pinned (.plain (OpenSpec.upto termsBlanksDoNotMatterSpec)) termsBlanksDoNotMatterUptoCard
end Rows
end Go.Proofs.YtimmffncfkcpfaaDoor
