import Derived.Test.YtcogomacihefoaaKnI
set_option linter.unusedVariables false
set_option linter.unusedSimpArgs false
set_option linter.unusedSectionVars false
set_option linter.deprecated false
namespace Go.Eng.E3
open Go Go.Eng Go.Proofs
set_option maxRecDepth 1000000
theorem i27_0 : bodyR 27 [kD 0] = some (.bool true) := run_bool (X := XK) (n := 400) okXK (by kernel_rfl)
theorem i28_0 : bodyR 28 [kD 0, .int .i64 (((0 : Nat) : Int).tmod 8)] = some (.bool true) := run_bool (X := XK) (n := 400) okXK (by kernel_rfl)
theorem i27_1 : bodyR 27 [kD 1] = some (.bool true) := run_bool (X := XK) (n := 400) okXK (by kernel_rfl)
theorem i28_1 : bodyR 28 [kD 1, .int .i64 (((1 : Nat) : Int).tmod 8)] = some (.bool true) := run_bool (X := XK) (n := 400) okXK (by kernel_rfl)
theorem i27_2 : bodyR 27 [kD 2] = some (.bool true) := run_bool (X := XK) (n := 400) okXK (by kernel_rfl)
theorem i28_2 : bodyR 28 [kD 2, .int .i64 (((2 : Nat) : Int).tmod 8)] = some (.bool true) := run_bool (X := XK) (n := 400) okXK (by kernel_rfl)
theorem i27_3 : bodyR 27 [kD 3] = some (.bool true) := run_bool (X := XK) (n := 400) okXK (by kernel_rfl)
theorem i28_3 : bodyR 28 [kD 3, .int .i64 (((3 : Nat) : Int).tmod 8)] = some (.bool true) := run_bool (X := XK) (n := 400) okXK (by kernel_rfl)
theorem i27_4 : bodyR 27 [kD 4] = some (.bool true) := run_bool (X := XK) (n := 400) okXK (by kernel_rfl)
theorem i28_4 : bodyR 28 [kD 4, .int .i64 (((4 : Nat) : Int).tmod 8)] = some (.bool true) := run_bool (X := XK) (n := 400) okXK (by kernel_rfl)
end Go.Eng.E3
