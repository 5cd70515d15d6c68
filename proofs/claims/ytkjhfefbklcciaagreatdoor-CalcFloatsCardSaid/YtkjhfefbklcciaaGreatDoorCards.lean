/-
  DERIVED. GIVEN WITH THE SEED: THE CARDS: each row of YtkjhfefbklcciaaGreatDoorRows.lean that lists a variable, with what it lists TIED to the program's text (the seventh form; the later family's looks); each row that meets fmt, with fmt's text TOLD by the authors' own Lean function (tested against real Go, not proved from fmt's source: count such statements apart). THE CARD IS WHAT COUNTS. Prove the row's statement (the work); the ties are given (YtkjhfefbklcciaaGreatDoorTie.lean); close each card by the builder's one call (the guide's Derived/Test/ToyasCard.lean, 'card_holds'). Laid BY PROGRAM, IN A SANDBOX (cutbox-door.mjs). By AI agents, Wed Nov 11 2026. No macro, syntax, notation, axiom, sorry.
-/
import Derived.Test.YtkjhfefbklcciaaGreatDoorRows
import GoSem.ClaimSeven
namespace Go.Proofs.YtkjhfefbklcciaaGreatDoor
namespace Rows

/-- THE TIED CARD OF 'colonnadelaw17.CalcFloats'. -/
def calcFloatsCard : Claim7 := { stood := { row := calcFloatsRow, standIns := [], harness := (true, "e2b980e5c0d6eb395f4bdde945741bd5c4d744e8bff0967dee22bf5e8b2d70ac"), looks := true }, kinds := [], alts := [], laidByText := true, laidKinds := [.data, .data, .pinned], laidTests := true, laidLooks := .later }
def CalcFloatsCardSaid : Prop := Claim7.holds Tryz.pinned (.plain (OpenSpec.ofChange calcFloatsSpec)) calcFloatsCard

/-- THE SECOND FORM's CARD OF 'colonnadelaw17.CalcFloats'. -/
def calcFloatsUptoCard : Claim7 := { stood := { row := calcFloatsUptoRow, standIns := [], harness := (true, "e2b980e5c0d6eb395f4bdde945741bd5c4d744e8bff0967dee22bf5e8b2d70ac"), looks := true }, kinds := [], alts := [], laidByText := true, laidKinds := [.data, .data, .pinned], laidTests := true, laidLooks := .later }
def CalcFloatsUptoCardSaid : Prop := Claim7.holds Tryz.pinned (.plain (OpenSpec.upto calcFloatsSpec)) calcFloatsUptoCard
end Rows
end Go.Proofs.YtkjhfefbklcciaaGreatDoor
