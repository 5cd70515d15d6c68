/-
  DERIVED. GIVEN WITH THE SEED: THE CARDS: each row of YtmckingimnhoaaaGreatDoorRows.lean that lists a variable, with what it lists TIED to the program's text (the seventh form; the later family's looks); each row that meets fmt, with fmt's text TOLD by the authors' own Lean function (tested against real Go, not proved from fmt's source: count such statements apart). THE CARD IS WHAT COUNTS. Prove the row's statement (the work); the ties are given (YtmckingimnhoaaaGreatDoorTie.lean); close each card by the builder's one call (the guide's Derived/Test/ToyasCard.lean, 'card_holds'). Laid BY PROGRAM, IN A SANDBOX (cutbox-door.mjs). By AI agents, Wed Nov 11 2026. No macro, syntax, notation, axiom, sorry.
-/
import Derived.Test.YtmckingimnhoaaaGreatDoorRows
import GoSem.ClaimSeven
namespace Go.Proofs.YtmckingimnhoaaaGreatDoor
namespace Rows

/-- THE TIED CARD OF 'colonnadelaw17.CalcTypes'. -/
def calcTypesCard : Claim7 := { stood := { row := calcTypesRow, standIns := [], harness := (true, "3265d9d242d4e3056b65537116885602c142b6430d5009f0635d226d2f725c1e"), looks := true }, kinds := [], alts := [], laidByText := true, laidKinds := [.data, .data, .pinned], laidTests := true, laidLooks := .later }
def CalcTypesCardSaid : Prop := Claim7.holds Tryz.pinned (.plain (OpenSpec.ofChange calcTypesSpec)) calcTypesCard

/-- THE SECOND FORM's CARD OF 'colonnadelaw17.CalcTypes'. -/
def calcTypesUptoCard : Claim7 := { stood := { row := calcTypesUptoRow, standIns := [], harness := (true, "3265d9d242d4e3056b65537116885602c142b6430d5009f0635d226d2f725c1e"), looks := true }, kinds := [], alts := [], laidByText := true, laidKinds := [.data, .data, .pinned], laidTests := true, laidLooks := .later }
def CalcTypesUptoCardSaid : Prop := Claim7.holds Tryz.pinned (.plain (OpenSpec.upto calcTypesSpec)) calcTypesUptoCard
end Rows
end Go.Proofs.YtmckingimnhoaaaGreatDoor
