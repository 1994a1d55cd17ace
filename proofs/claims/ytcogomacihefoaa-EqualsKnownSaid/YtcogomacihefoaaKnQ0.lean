import Derived.Test.YtcogomacihefoaaKnI
set_option linter.unusedVariables false
set_option linter.unusedSimpArgs false
set_option linter.unusedSectionVars false
set_option linter.deprecated false
namespace Go.Eng.E3
open Go Go.Eng Go.Proofs
set_option maxRecDepth 1000000
theorem i29_0 : bodyR 29 [kD 0, kR 0] = some (.bool true) := run_bool (X := XQ) (n := 400) okXQ (by kernel_rfl)
theorem i29_1 : bodyR 29 [kD 1, kR 1] = some (.bool true) := run_bool (X := XQ) (n := 400) okXQ (by kernel_rfl)
theorem i29_2 : bodyR 29 [kD 2, kR 2] = some (.bool true) := run_bool (X := XQ) (n := 400) okXQ (by kernel_rfl)
theorem i29_3 : bodyR 29 [kD 3, kR 3] = some (.bool true) := run_bool (X := XQ) (n := 400) okXQ (by kernel_rfl)
theorem i29_4 : bodyR 29 [kD 4, kR 4] = some (.bool true) := run_bool (X := XQ) (n := 400) okXQ (by kernel_rfl)
end Go.Eng.E3
