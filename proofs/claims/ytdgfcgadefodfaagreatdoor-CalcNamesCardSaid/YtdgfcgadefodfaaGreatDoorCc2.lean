/- Cc2: the closed run of CalcNames, by the kernel. No conditions. -/
import Derived.Test.YtdgfcgadefodfaaGreatDoorCc1
import Derived.Test.YtdgfcgadefodfaaGreatDoorEm32
set_option linter.unusedVariables false
namespace Go.Proofs.YtdgfcgadefodfaaGreatDoor.Calc
open Go Go.Proofs.YtdgfcgadefodfaaGreatDoor Go.Proofs.YtdgfcgadefodfaaGreatDoor.Em

theorem names_val : valX gs tab 100000 3 [] = some (.lit (.bool true)) := by kernel_rfl
theorem names_run : execV gs tab 100000 3 [] [] = some (.lit (.bool true)) := valX_exec names_val

end Go.Proofs.YtdgfcgadefodfaaGreatDoor.Calc
