/-
  DERIVED. GIVEN WITH THE SEED: THE CARDS: each row of YtehgpabfgjofhaaGreatDoorRows.lean that lists a variable, with what it lists TIED to the program's text (the seventh form; the later family's looks); each row that meets fmt, with fmt's text TOLD by the authors' own Lean function (tested against real Go, not proved from fmt's source: count such statements apart). THE CARD IS WHAT COUNTS. Prove the row's statement (the work); the ties are given (YtehgpabfgjofhaaGreatDoorTie.lean); close each card by the builder's one call (the guide's Derived/Test/ToyasCard.lean, 'card_holds'). Laid BY PROGRAM, IN A SANDBOX (cutbox-door.mjs). By AI agents, Wed Nov 11 2026. No macro, syntax, notation, axiom, sorry.
-/
import Derived.Test.YtehgpabfgjofhaaGreatDoorRows
import GoSem.ClaimSeven
namespace Go.Proofs.YtehgpabfgjofhaaGreatDoor
namespace Rows

/-- THE TIED CARD OF 'colonnadelaw23.StatsHold'. -/
def statsHoldCard : Claim7 := { stood := { row := statsHoldRow, standIns := [], harness := (true, "76f6e364e5236b8dbf429bf5116cb7e11dbb24eafaeae42365553079a4d56085"), looks := true }, kinds := [], alts := [], laidByText := true, laidKinds := [.data, .data, .pinned], laidTests := true, laidLooks := .later }
def StatsHoldCardSaid : Prop := Claim7.holds Tryz.pinned (.plain (OpenSpec.ofChange statsHoldSpec)) statsHoldCard

/-- THE SECOND FORM's CARD OF 'colonnadelaw23.StatsHold'. -/
def statsHoldUptoCard : Claim7 := { stood := { row := statsHoldUptoRow, standIns := [], harness := (true, "76f6e364e5236b8dbf429bf5116cb7e11dbb24eafaeae42365553079a4d56085"), looks := true }, kinds := [], alts := [], laidByText := true, laidKinds := [.data, .data, .pinned], laidTests := true, laidLooks := .later }
def StatsHoldUptoCardSaid : Prop := Claim7.holds Tryz.pinned (.plain (OpenSpec.upto statsHoldSpec)) statsHoldUptoCard
end Rows
end Go.Proofs.YtehgpabfgjofhaaGreatDoor
