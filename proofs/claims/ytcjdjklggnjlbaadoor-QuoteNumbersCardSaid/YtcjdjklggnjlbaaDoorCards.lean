/-
  DERIVED. GIVEN WITH THE SEED: THE CARDS: each row of YtcjdjklggnjlbaaDoorRows.lean that lists a variable, with what it lists TIED to the program's text (the seventh form; the later family's looks); each row that meets fmt, with fmt's text TOLD by the authors' own Lean function (tested against real Go, not proved from fmt's source: count such statements apart). THE CARD IS WHAT COUNTS. Prove the row's statement (the work); the ties are given (YtcjdjklggnjlbaaDoorTie.lean); close each card by the builder's one call (the guide's Derived/Test/ToyasCard.lean, 'card_holds'). Laid BY PROGRAM, IN A SANDBOX (cutbox-door.mjs). By AI agents, Wed Nov 11 2026. No macro, syntax, notation, axiom, sorry.
-/
import Derived.Test.YtcjdjklggnjlbaaDoorRows
import GoSem.ClaimSeven
namespace Go.Proofs.YtcjdjklggnjlbaaDoor
namespace Rows

/-- THE TIED CARD OF 'caltroplaw02.QuoteNumbers'. -/
def quoteNumbersCard : Claim7 := { stood := { row := quoteNumbersRow, standIns := [], harness := (true, "5558002d8a39b98698e4f698a4109106413522db1d392b27da3768dd77b9df28"), looks := true }, kinds := [], alts := [], laidByText := true, laidKinds := [.data, .data, .data, .sentinel, .sentinel], laidTests := true, laidLooks := .later }
def QuoteNumbersCardSaid : Prop := Claim7.holds Tryd.pinned (.plain (OpenSpec.ofChange quoteNumbersSpec)) quoteNumbersCard

/-- THE SECOND FORM's CARD OF 'caltroplaw02.QuoteNumbers'. -/
def quoteNumbersUptoCard : Claim7 := { stood := { row := quoteNumbersUptoRow, standIns := [], harness := (true, "5558002d8a39b98698e4f698a4109106413522db1d392b27da3768dd77b9df28"), looks := true }, kinds := [], alts := [], laidByText := true, laidKinds := [.data, .data, .data, .sentinel, .sentinel], laidTests := true, laidLooks := .later }
def QuoteNumbersUptoCardSaid : Prop := Claim7.holds Tryd.pinned (.plain (OpenSpec.upto quoteNumbersSpec)) quoteNumbersUptoCard
end Rows
end Go.Proofs.YtcjdjklggnjlbaaDoor
