import Derived.Test.YtcogomacihefoaaKnI
set_option linter.unusedVariables false
set_option linter.unusedSimpArgs false
set_option linter.unusedSectionVars false
set_option linter.deprecated false
namespace Go.Eng.E3
open Go Go.Eng Go.Proofs
set_option maxRecDepth 1000000
theorem i29_5 : bodyR 29 [kD 5, kR 5] = some (.bool true) := run_bool (X := XQ) (n := 400) okXQ (by kernel_rfl)
theorem i29_6 : bodyR 29 [kD 6, kR 6] = some (.bool true) := run_bool (X := XQ) (n := 400) okXQ (by kernel_rfl)
theorem i29_7 : bodyR 29 [kD 7, kR 7] = some (.bool true) := run_bool (X := XQ) (n := 400) okXQ (by kernel_rfl)
theorem i29_8 : bodyR 29 [kD 8, kR 8] = some (.bool true) := run_bool (X := XQ) (n := 400) okXQ (by kernel_rfl)
theorem i29_9 : bodyR 29 [kD 9, kR 9] = some (.bool true) := run_bool (X := XQ) (n := 400) okXQ (by kernel_rfl)
end Go.Eng.E3
