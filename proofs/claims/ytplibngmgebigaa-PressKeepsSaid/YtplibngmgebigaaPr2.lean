/- Pr2: closed runs of press. No conditions. -/
import Derived.Test.YtplibngmgebigaaPr1
set_option linter.unusedVariables false
namespace Go.Proofs.Ytplibngmgebigaa.Press
open Go Go.Proofs.Ytplibngmgebigaa Go.Proofs.Ytplibngmgebigaa.Em

theorem awake_run : execV [] tab 100000 11 [] [] = some (.sb true) := by kernel_rfl

end Go.Proofs.Ytplibngmgebigaa.Press
