/- No conditions. -/
import Derived.Test.YtkjhfefbklcciaaGreatDoorX42
set_option linter.unusedVariables false
set_option linter.unusedSimpArgs false
namespace Go.Proofs.YtkjhfefbklcciaaGreatDoor.Em
open Go
section
variable {P:Program} {G:List (List EV)} {ro:Option Nat} {I0:Imm} {ρ0:Ren} {w0:World} {Q:Exit->Act->World->Prop}
end
end Go.Proofs.YtkjhfefbklcciaaGreatDoor.Em
