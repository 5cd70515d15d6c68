/-
  DERIVED. GIVEN WITH THE SEED: THE CARDS: each row of YtdgfcgadefodfaaGreatDoorRows.lean that lists a variable, with what it lists TIED to the program's text (the seventh form; the later family's looks); each row that meets fmt, with fmt's text TOLD by the authors' own Lean function (tested against real Go, not proved from fmt's source: count such statements apart). THE CARD IS WHAT COUNTS. Prove the row's statement (the work); the ties are given (YtdgfcgadefodfaaGreatDoorTie.lean); close each card by the builder's one call (the guide's Derived/Test/ToyasCard.lean, 'card_holds'). Laid BY PROGRAM, IN A SANDBOX (cutbox-door.mjs). By AI agents, Wed Nov 11 2026. No macro, syntax, notation, axiom, sorry.
-/
import Derived.Test.YtdgfcgadefodfaaGreatDoorRows
import GoSem.ClaimSeven
namespace Go.Proofs.YtdgfcgadefodfaaGreatDoor
namespace Rows

/-- THE TIED CARD OF 'colonnadelaw17.CalcNames'. -/
def calcNamesCard : Claim7 := { stood := { row := calcNamesRow, standIns := [], harness := (true, "53933424896eb17dc5325eeac3155a8a52efc851b8d211c6ed98f5d34ef6eea2"), looks := true }, kinds := [], alts := [], laidByText := true, laidKinds := [.data, .data, .pinned], laidTests := true, laidLooks := .later }
def CalcNamesCardSaid : Prop := Claim7.holds Tryz.pinned (.plain (OpenSpec.ofChange calcNamesSpec)) calcNamesCard

/-- THE SECOND FORM's CARD OF 'colonnadelaw17.CalcNames'. -/
def calcNamesUptoCard : Claim7 := { stood := { row := calcNamesUptoRow, standIns := [], harness := (true, "53933424896eb17dc5325eeac3155a8a52efc851b8d211c6ed98f5d34ef6eea2"), looks := true }, kinds := [], alts := [], laidByText := true, laidKinds := [.data, .data, .pinned], laidTests := true, laidLooks := .later }
def CalcNamesUptoCardSaid : Prop := Claim7.holds Tryz.pinned (.plain (OpenSpec.upto calcNamesSpec)) calcNamesUptoCard
end Rows
end Go.Proofs.YtdgfcgadefodfaaGreatDoor
