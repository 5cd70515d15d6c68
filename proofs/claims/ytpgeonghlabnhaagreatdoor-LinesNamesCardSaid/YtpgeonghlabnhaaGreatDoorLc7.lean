/- Lc7: the closed run of LinesNames, by the kernel. No conditions. -/
import Derived.Test.YtpgeonghlabnhaaGreatDoorLc6
set_option linter.unusedVariables false
namespace Go.Proofs.YtpgeonghlabnhaaGreatDoor.Lin
open Go Go.Proofs Go.Proofs.YtpgeonghlabnhaaGreatDoor Go.Proofs.YtpgeonghlabnhaaGreatDoor.Em
theorem names_val : valX gs tab5 100000 3 [] = some (.sb true) := by kernel_rfl
theorem names_run : Tri Tryz.prog gs 3 [] [] fun v h' => v = .sb true ∧ h' = [] := closedV tab5_ok names_val rfl
end Go.Proofs.YtpgeonghlabnhaaGreatDoor.Lin
