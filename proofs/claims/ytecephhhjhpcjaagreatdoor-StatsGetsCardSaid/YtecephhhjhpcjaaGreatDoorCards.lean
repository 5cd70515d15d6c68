/-
  DERIVED. GIVEN WITH THE SEED: THE CARDS: each row of YtecephhhjhpcjaaGreatDoorRows.lean that lists a variable, with what it lists TIED to the program's text (the seventh form; the later family's looks); each row that meets fmt, with fmt's text TOLD by the authors' own Lean function (tested against real Go, not proved from fmt's source: count such statements apart). THE CARD IS WHAT COUNTS. Prove the row's statement (the work); the ties are given (YtecephhhjhpcjaaGreatDoorTie.lean); close each card by the builder's one call (the guide's Derived/Test/ToyasCard.lean, 'card_holds'). Laid BY PROGRAM, IN A SANDBOX (cutbox-door.mjs). By AI agents, Wed Nov 11 2026. No macro, syntax, notation, axiom, sorry.
-/
import Derived.Test.YtecephhhjhpcjaaGreatDoorRows
import GoSem.ClaimSeven
namespace Go.Proofs.YtecephhhjhpcjaaGreatDoor
namespace Rows

/-- THE TIED CARD OF 'colonnadelaw23.StatsMerges'. -/
def statsMergesCard : Claim7 := { stood := { row := statsMergesRow, standIns := [], harness := (true, "bff43294cd6d4df5fdcc2a768f76cd0db43e5d7bb18b7baabe425725f593969f"), looks := true }, kinds := [], alts := [], laidByText := true, laidKinds := [.data, .data, .pinned], laidTests := true, laidLooks := .later }
def StatsMergesCardSaid : Prop := Claim7.holds Tryz.pinned (.plain (OpenSpec.ofChange statsMergesSpec)) statsMergesCard

/-- THE TIED CARD OF 'colonnadelaw23.StatsPuts'. -/
def statsPutsCard : Claim7 := { stood := { row := statsPutsRow, standIns := [], harness := (true, "bff43294cd6d4df5fdcc2a768f76cd0db43e5d7bb18b7baabe425725f593969f"), looks := true }, kinds := [], alts := [], laidByText := true, laidKinds := [.data, .data, .pinned], laidTests := true, laidLooks := .later }
def StatsPutsCardSaid : Prop := Claim7.holds Tryz.pinned (.plain (OpenSpec.ofChange statsPutsSpec)) statsPutsCard

/-- THE TIED CARD OF 'colonnadelaw23.StatsGets'. -/
def statsGetsCard : Claim7 := { stood := { row := statsGetsRow, standIns := [], harness := (true, "bff43294cd6d4df5fdcc2a768f76cd0db43e5d7bb18b7baabe425725f593969f"), looks := true }, kinds := [], alts := [], laidByText := true, laidKinds := [.data, .data, .pinned], laidTests := true, laidLooks := .later }
def StatsGetsCardSaid : Prop := Claim7.holds Tryz.pinned (.plain (OpenSpec.ofChange statsGetsSpec)) statsGetsCard

/-- THE SECOND FORM's CARD OF 'colonnadelaw23.StatsMerges'. -/
def statsMergesUptoCard : Claim7 := { stood := { row := statsMergesUptoRow, standIns := [], harness := (true, "bff43294cd6d4df5fdcc2a768f76cd0db43e5d7bb18b7baabe425725f593969f"), looks := true }, kinds := [], alts := [], laidByText := true, laidKinds := [.data, .data, .pinned], laidTests := true, laidLooks := .later }
def StatsMergesUptoCardSaid : Prop := Claim7.holds Tryz.pinned (.plain (OpenSpec.upto statsMergesSpec)) statsMergesUptoCard

/-- THE SECOND FORM's CARD OF 'colonnadelaw23.StatsPuts'. -/
def statsPutsUptoCard : Claim7 := { stood := { row := statsPutsUptoRow, standIns := [], harness := (true, "bff43294cd6d4df5fdcc2a768f76cd0db43e5d7bb18b7baabe425725f593969f"), looks := true }, kinds := [], alts := [], laidByText := true, laidKinds := [.data, .data, .pinned], laidTests := true, laidLooks := .later }
def StatsPutsUptoCardSaid : Prop := Claim7.holds Tryz.pinned (.plain (OpenSpec.upto statsPutsSpec)) statsPutsUptoCard

/-- THE SECOND FORM's CARD OF 'colonnadelaw23.StatsGets'. -/
def statsGetsUptoCard : Claim7 := { stood := { row := statsGetsUptoRow, standIns := [], harness := (true, "bff43294cd6d4df5fdcc2a768f76cd0db43e5d7bb18b7baabe425725f593969f"), looks := true }, kinds := [], alts := [], laidByText := true, laidKinds := [.data, .data, .pinned], laidTests := true, laidLooks := .later }
def StatsGetsUptoCardSaid : Prop := Claim7.holds Tryz.pinned (.plain (OpenSpec.upto statsGetsSpec)) statsGetsUptoCard
end Rows
end Go.Proofs.YtecephhhjhpcjaaGreatDoor
