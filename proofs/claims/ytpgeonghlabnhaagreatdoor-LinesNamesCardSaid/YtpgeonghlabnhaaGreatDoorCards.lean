/-
  DERIVED. GIVEN WITH THE SEED: THE CARDS: each row of YtpgeonghlabnhaaGreatDoorRows.lean that lists a variable, with what it lists TIED to the program's text (the seventh form; the later family's looks); each row that meets fmt, with fmt's text TOLD by the authors' own Lean function (tested against real Go, not proved from fmt's source: count such statements apart). THE CARD IS WHAT COUNTS. Prove the row's statement (the work); the ties are given (YtpgeonghlabnhaaGreatDoorTie.lean); close each card by the builder's one call (the guide's Derived/Test/ToyasCard.lean, 'card_holds'). Laid BY PROGRAM, IN A SANDBOX (cutbox-door.mjs). By AI agents, Wed Nov 11 2026. No macro, syntax, notation, axiom, sorry.
-/
import Derived.Test.YtpgeonghlabnhaaGreatDoorRows
import GoSem.ClaimSeven
namespace Go.Proofs.YtpgeonghlabnhaaGreatDoor
namespace Rows

/-- THE TIED CARD OF 'colonnadelaw25.LinesNames'. -/
def linesNamesCard : Claim7 := { stood := { row := linesNamesRow, standIns := [], harness := (true, "72b2633ca2620e9c80c3aa366ccb4a0475b851ebff3de738a76c62b3597623ec"), looks := true }, kinds := [], alts := [], laidByText := true, laidKinds := [.data, .data, .data, .data, .sentinel, .sentinel, .data, .pinned], laidTests := true, laidLooks := .later }
def LinesNamesCardSaid : Prop := Claim7.holds Tryz.pinned (.plain (OpenSpec.ofChange linesNamesSpec)) linesNamesCard

/-- THE TIED CARD OF 'colonnadelaw25.LinesGuesses'. -/
def linesGuessesCard : Claim7 := { stood := { row := linesGuessesRow, standIns := [], harness := (true, "72b2633ca2620e9c80c3aa366ccb4a0475b851ebff3de738a76c62b3597623ec"), looks := true }, kinds := [], alts := [], laidByText := true, laidKinds := [.data, .data, .data, .data, .sentinel, .sentinel, .data, .pinned], laidTests := true, laidLooks := .later }
def LinesGuessesCardSaid : Prop := Claim7.holds Tryz.pinned (.plain (OpenSpec.ofChange linesGuessesSpec)) linesGuessesCard

/-- THE TIED CARD OF 'colonnadelaw25.LinesGuessed'. -/
def linesGuessedCard : Claim7 := { stood := { row := linesGuessedRow, standIns := [], harness := (true, "72b2633ca2620e9c80c3aa366ccb4a0475b851ebff3de738a76c62b3597623ec"), looks := true }, kinds := [], alts := [], laidByText := true, laidKinds := [.data, .data, .data, .data, .sentinel, .sentinel, .data, .pinned], laidTests := true, laidLooks := .later }
def LinesGuessedCardSaid : Prop := Claim7.holds Tryz.pinned (.plain (OpenSpec.ofChange linesGuessedSpec)) linesGuessedCard

/-- THE SECOND FORM's CARD OF 'colonnadelaw25.LinesNames'. -/
def linesNamesUptoCard : Claim7 := { stood := { row := linesNamesUptoRow, standIns := [], harness := (true, "72b2633ca2620e9c80c3aa366ccb4a0475b851ebff3de738a76c62b3597623ec"), looks := true }, kinds := [], alts := [], laidByText := true, laidKinds := [.data, .data, .data, .data, .sentinel, .sentinel, .data, .pinned], laidTests := true, laidLooks := .later }
def LinesNamesUptoCardSaid : Prop := Claim7.holds Tryz.pinned (.plain (OpenSpec.upto linesNamesSpec)) linesNamesUptoCard

/-- THE SECOND FORM's CARD OF 'colonnadelaw25.LinesGuesses'. -/
def linesGuessesUptoCard : Claim7 := { stood := { row := linesGuessesUptoRow, standIns := [], harness := (true, "72b2633ca2620e9c80c3aa366ccb4a0475b851ebff3de738a76c62b3597623ec"), looks := true }, kinds := [], alts := [], laidByText := true, laidKinds := [.data, .data, .data, .data, .sentinel, .sentinel, .data, .pinned], laidTests := true, laidLooks := .later }
def LinesGuessesUptoCardSaid : Prop := Claim7.holds Tryz.pinned (.plain (OpenSpec.upto linesGuessesSpec)) linesGuessesUptoCard

/-- THE SECOND FORM's CARD OF 'colonnadelaw25.LinesGuessed'. -/
def linesGuessedUptoCard : Claim7 := { stood := { row := linesGuessedUptoRow, standIns := [], harness := (true, "72b2633ca2620e9c80c3aa366ccb4a0475b851ebff3de738a76c62b3597623ec"), looks := true }, kinds := [], alts := [], laidByText := true, laidKinds := [.data, .data, .data, .data, .sentinel, .sentinel, .data, .pinned], laidTests := true, laidLooks := .later }
def LinesGuessedUptoCardSaid : Prop := Claim7.holds Tryz.pinned (.plain (OpenSpec.upto linesGuessedSpec)) linesGuessedUptoCard
end Rows
end Go.Proofs.YtpgeonghlabnhaaGreatDoor
