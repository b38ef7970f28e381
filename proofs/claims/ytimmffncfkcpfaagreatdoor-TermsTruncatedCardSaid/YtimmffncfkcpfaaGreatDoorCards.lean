/-
  DERIVED. GIVEN WITH THE SEED: THE CARDS: each row of YtimmffncfkcpfaaGreatDoorRows.lean that lists a variable, with what it lists TIED to the program's text (the seventh form; the later family's looks); each row that meets fmt, with fmt's text TOLD by the authors' own Lean function (tested against real Go, not proved from fmt's source: count such statements apart). THE CARD IS WHAT COUNTS. Prove the row's statement (the work); the ties are given (YtimmffncfkcpfaaGreatDoorTie.lean); close each card by the builder's one call (the guide's Derived/Test/ToyasCard.lean, 'card_holds'). Laid BY PROGRAM, IN A SANDBOX (cutbox-door.mjs). By AI agents, Wed Nov 11 2026. No macro, syntax, notation, axiom, sorry.
-/
import Derived.Test.YtimmffncfkcpfaaGreatDoorRows
import GoSem.ClaimSeven
namespace Go.Proofs.YtimmffncfkcpfaaGreatDoor
namespace Rows

/-- THE TIED CARD OF 'solventlaw29.TermsParseMatchesSpec'. -/
def termsParseMatchesSpecCard : Claim7 := { stood := { row := termsParseMatchesSpecRow, standIns := [], harness := (true, "efb13ec737075a51d6a4005e728db9d4cfff2b6198e09ec32f04e01ee5ae842d"), looks := true }, kinds := [], alts := [], laidByText := true, laidKinds := [.data, .data, .data, .sentinel, .sentinel, .data], laidTests := true, laidLooks := .later }
def TermsParseMatchesSpecCardSaid : Prop := Claim7.holds Tryz.pinned (.plain (OpenSpec.ofChange termsParseMatchesSpecSpec)) termsParseMatchesSpecCard

/-- THE TIED CARD OF 'solventlaw29.TermsTruncated'. -/
def termsTruncatedCard : Claim7 := { stood := { row := termsTruncatedRow, standIns := [], harness := (true, "efb13ec737075a51d6a4005e728db9d4cfff2b6198e09ec32f04e01ee5ae842d"), looks := true }, kinds := [], alts := [], laidByText := true, laidKinds := [.data, .data, .data, .sentinel, .sentinel, .data], laidTests := true, laidLooks := .later }
def TermsTruncatedCardSaid : Prop := Claim7.holds Tryz.pinned (.plain (OpenSpec.ofChange termsTruncatedSpec)) termsTruncatedCard

/-- THE SECOND FORM's CARD OF 'solventlaw29.TermsParseMatchesSpec'. -/
def termsParseMatchesSpecUptoCard : Claim7 := { stood := { row := termsParseMatchesSpecUptoRow, standIns := [], harness := (true, "efb13ec737075a51d6a4005e728db9d4cfff2b6198e09ec32f04e01ee5ae842d"), looks := true }, kinds := [], alts := [], laidByText := true, laidKinds := [.data, .data, .data, .sentinel, .sentinel, .data], laidTests := true, laidLooks := .later }
def TermsParseMatchesSpecUptoCardSaid : Prop := Claim7.holds Tryz.pinned (.plain (OpenSpec.upto termsParseMatchesSpecSpec)) termsParseMatchesSpecUptoCard

/-- THE SECOND FORM's CARD OF 'solventlaw29.TermsTruncated'. -/
def termsTruncatedUptoCard : Claim7 := { stood := { row := termsTruncatedUptoRow, standIns := [], harness := (true, "efb13ec737075a51d6a4005e728db9d4cfff2b6198e09ec32f04e01ee5ae842d"), looks := true }, kinds := [], alts := [], laidByText := true, laidKinds := [.data, .data, .data, .sentinel, .sentinel, .data], laidTests := true, laidLooks := .later }
def TermsTruncatedUptoCardSaid : Prop := Claim7.holds Tryz.pinned (.plain (OpenSpec.upto termsTruncatedSpec)) termsTruncatedUptoCard
end Rows
end Go.Proofs.YtimmffncfkcpfaaGreatDoor
