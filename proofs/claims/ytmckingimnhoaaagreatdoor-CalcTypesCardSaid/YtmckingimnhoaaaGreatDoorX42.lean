/- Em42: calls that change one block of their caller's; less of a list that is looked at. No conditions beyond those written. -/
import Derived.Test.YtmckingimnhoaaaGreatDoorX41
set_option linter.unusedVariables false
set_option linter.unusedSimpArgs false
namespace Go.Proofs.YtmckingimnhoaaaGreatDoor.Em
open Go
section
variable {P : Program} {G : List (List EV)}
end
end Go.Proofs.YtmckingimnhoaaaGreatDoor.Em
