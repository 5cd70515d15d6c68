/- Em41: calls that let bytes of their caller's grow. No conditions beyond those written. -/
import Derived.Test.YtmckingimnhoaaaGreatDoorX40
set_option linter.unusedVariables false
set_option linter.unusedSimpArgs false
namespace Go.Proofs.YtmckingimnhoaaaGreatDoor.Em
open Go
section
variable {P : Program} {G : List (List EV)}
end
end Go.Proofs.YtmckingimnhoaaaGreatDoor.Em
