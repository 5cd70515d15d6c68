/- No conditions. -/
import Derived.Test.YtkjhfefbklcciaaGreatDoorX44
set_option linter.unusedVariables false
namespace Go.Proofs.YtkjhfefbklcciaaGreatDoor.Em
open Go
section
variable {P:Program} {G:List (List EV)}
end
end Go.Proofs.YtkjhfefbklcciaaGreatDoor.Em
