/- No conditions. -/
import Derived.Test.YtkjhfefbklcciaaGreatDoorX28
set_option linter.unusedVariables false
set_option linter.unusedSimpArgs false
namespace Go.Proofs.YtkjhfefbklcciaaGreatDoor.Em
open Go Go.RowKit
section
variable {P:Program} {m:Nat} {t e:TypeId} {c:List EV} {g:TypeId->List EV->Prop} {f:Field} {l:List Field}
end
section
variable {P:Program} {W:World} {I:Imm} {H:Type} {enc:TypeId×Value->H} {held:Bool}
end
end Go.Proofs.YtkjhfefbklcciaaGreatDoor.Em
