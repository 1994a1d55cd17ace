import Derived.Test.YtcogomacihefoaaKnI
set_option linter.unusedVariables false
set_option linter.unusedSimpArgs false
set_option linter.unusedSectionVars false
set_option linter.deprecated false
namespace Go.Eng.E3
open Go Go.Eng Go.Proofs
set_option maxRecDepth 1000000
theorem i29_35 : bodyR 29 [kD 35, kR 35] = some (.bool true) := run_bool (X := XQ) (n := 400) okXQ (by kernel_rfl)
theorem i29_36 : bodyR 29 [kD 36, kR 36] = some (.bool true) := run_bool (X := XQ) (n := 400) okXQ (by kernel_rfl)
theorem i29_37 : bodyR 29 [kD 37, kR 37] = some (.bool true) := run_bool (X := XQ) (n := 400) okXQ (by kernel_rfl)
theorem i29_38 : bodyR 29 [kD 38, kR 38] = some (.bool true) := run_bool (X := XQ) (n := 400) okXQ (by kernel_rfl)
theorem i29_39 : bodyR 29 [kD 39, kR 39] = some (.bool true) := run_bool (X := XQ) (n := 400) okXQ (by kernel_rfl)
end Go.Eng.E3
