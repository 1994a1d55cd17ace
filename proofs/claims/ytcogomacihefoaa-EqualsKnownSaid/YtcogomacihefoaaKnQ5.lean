import Derived.Test.YtcogomacihefoaaKnI
set_option linter.unusedVariables false
set_option linter.unusedSimpArgs false
set_option linter.unusedSectionVars false
set_option linter.deprecated false
namespace Go.Eng.E3
open Go Go.Eng Go.Proofs
set_option maxRecDepth 1000000
theorem i29_25 : bodyR 29 [kD 25, kR 25] = some (.bool true) := run_bool (X := XQ) (n := 400) okXQ (by kernel_rfl)
theorem i29_26 : bodyR 29 [kD 26, kR 26] = some (.bool true) := run_bool (X := XQ) (n := 400) okXQ (by kernel_rfl)
theorem i29_27 : bodyR 29 [kD 27, kR 27] = some (.bool true) := run_bool (X := XQ) (n := 400) okXQ (by kernel_rfl)
theorem i29_28 : bodyR 29 [kD 28, kR 28] = some (.bool true) := run_bool (X := XQ) (n := 400) okXQ (by kernel_rfl)
theorem i29_29 : bodyR 29 [kD 29, kR 29] = some (.bool true) := run_bool (X := XQ) (n := 400) okXQ (by kernel_rfl)
end Go.Eng.E3
