/-
  DERIVED. GIVEN WITH THE SEED: THE CARDS: each row of YtjbgdflnldhgcaaGreatDoorRows.lean that lists a variable, with what it lists TIED to the program's text (the seventh form; the later family's looks); each row that meets fmt, with fmt's text TOLD by the authors' own Lean function (tested against real Go, not proved from fmt's source: count such statements apart). THE CARD IS WHAT COUNTS. Prove the row's statement (the work); the ties are given (YtjbgdflnldhgcaaGreatDoorTie.lean); close each card by the builder's one call (the guide's Derived/Test/ToyasCard.lean, 'card_holds'). Laid BY PROGRAM, IN A SANDBOX (cutbox-door.mjs). By AI agents, Wed Nov 11 2026. No macro, syntax, notation, axiom, sorry.
-/
import Derived.Test.YtjbgdflnldhgcaaGreatDoorRows
import GoSem.ClaimSeven
namespace Go.Proofs.YtjbgdflnldhgcaaGreatDoor
namespace Rows

/-- THE TIED CARD OF 'caltroplaw28.SimpleNone'. -/
def simpleNoneCard : Claim7 := { stood := { row := simpleNoneRow, standIns := [], harness := (true, "6a60b20c62d41deae7d8930833526537e0b8d40c853df035a937e66535211ddd"), looks := false }, kinds := [], alts := [], laidByText := true, laidKinds := [.data], laidTests := true, laidLooks := .later }
def SimpleNoneCardSaid : Prop := Claim7.holds Tryz.pinned (.plain (OpenSpec.ofChange simpleNoneSpec)) simpleNoneCard

/-- THE SECOND FORM's CARD OF 'caltroplaw28.SimpleNone'. -/
def simpleNoneUptoCard : Claim7 := { stood := { row := simpleNoneUptoRow, standIns := [], harness := (true, "6a60b20c62d41deae7d8930833526537e0b8d40c853df035a937e66535211ddd"), looks := false }, kinds := [], alts := [], laidByText := true, laidKinds := [.data], laidTests := true, laidLooks := .later }
def SimpleNoneUptoCardSaid : Prop := Claim7.holds Tryz.pinned (.plain (OpenSpec.upto simpleNoneSpec)) simpleNoneUptoCard
end Rows
end Go.Proofs.YtjbgdflnldhgcaaGreatDoor
