import Derived.Test.YtcogomacihefoaaKnI
set_option linter.unusedVariables false
set_option linter.unusedSimpArgs false
set_option linter.unusedSectionVars false
set_option linter.deprecated false
namespace Go.Eng.E3
open Go Go.Eng Go.Proofs
set_option maxRecDepth 1000000
theorem i29_20 : bodyR 29 [kD 20, kR 20] = some (.bool true) := run_bool (X := XQ) (n := 400) okXQ (by kernel_rfl)
theorem i29_21 : bodyR 29 [kD 21, kR 21] = some (.bool true) := run_bool (X := XQ) (n := 400) okXQ (by kernel_rfl)
theorem i29_22 : bodyR 29 [kD 22, kR 22] = some (.bool true) := run_bool (X := XQ) (n := 400) okXQ (by kernel_rfl)
theorem i29_23 : bodyR 29 [kD 23, kR 23] = some (.bool true) := run_bool (X := XQ) (n := 400) okXQ (by kernel_rfl)
theorem i29_24 : bodyR 29 [kD 24, kR 24] = some (.bool true) := run_bool (X := XQ) (n := 400) okXQ (by kernel_rfl)
end Go.Eng.E3
