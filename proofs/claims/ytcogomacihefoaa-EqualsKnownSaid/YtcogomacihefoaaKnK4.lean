import Derived.Test.YtcogomacihefoaaKnI
set_option linter.unusedVariables false
set_option linter.unusedSimpArgs false
set_option linter.unusedSectionVars false
set_option linter.deprecated false
namespace Go.Eng.E3
open Go Go.Eng Go.Proofs
set_option maxRecDepth 1000000
theorem i27_20 : bodyR 27 [kD 20] = some (.bool true) := run_bool (X := XK) (n := 400) okXK (by kernel_rfl)
theorem i28_20 : bodyR 28 [kD 20, .int .i64 (((20 : Nat) : Int).tmod 8)] = some (.bool true) := run_bool (X := XK) (n := 400) okXK (by kernel_rfl)
theorem i27_21 : bodyR 27 [kD 21] = some (.bool true) := run_bool (X := XK) (n := 400) okXK (by kernel_rfl)
theorem i28_21 : bodyR 28 [kD 21, .int .i64 (((21 : Nat) : Int).tmod 8)] = some (.bool true) := run_bool (X := XK) (n := 400) okXK (by kernel_rfl)
theorem i27_22 : bodyR 27 [kD 22] = some (.bool true) := run_bool (X := XK) (n := 400) okXK (by kernel_rfl)
theorem i28_22 : bodyR 28 [kD 22, .int .i64 (((22 : Nat) : Int).tmod 8)] = some (.bool true) := run_bool (X := XK) (n := 400) okXK (by kernel_rfl)
theorem i27_23 : bodyR 27 [kD 23] = some (.bool true) := run_bool (X := XK) (n := 400) okXK (by kernel_rfl)
theorem i28_23 : bodyR 28 [kD 23, .int .i64 (((23 : Nat) : Int).tmod 8)] = some (.bool true) := run_bool (X := XK) (n := 400) okXK (by kernel_rfl)
theorem i27_24 : bodyR 27 [kD 24] = some (.bool true) := run_bool (X := XK) (n := 400) okXK (by kernel_rfl)
theorem i28_24 : bodyR 28 [kD 24, .int .i64 (((24 : Nat) : Int).tmod 8)] = some (.bool true) := run_bool (X := XK) (n := 400) okXK (by kernel_rfl)
end Go.Eng.E3
