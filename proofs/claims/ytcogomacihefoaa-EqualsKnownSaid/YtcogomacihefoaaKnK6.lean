import Derived.Test.YtcogomacihefoaaKnI
set_option linter.unusedVariables false
set_option linter.unusedSimpArgs false
set_option linter.unusedSectionVars false
set_option linter.deprecated false
namespace Go.Eng.E3
open Go Go.Eng Go.Proofs
set_option maxRecDepth 1000000
theorem i27_30 : bodyR 27 [kD 30] = some (.bool true) := run_bool (X := XK) (n := 400) okXK (by kernel_rfl)
theorem i28_30 : bodyR 28 [kD 30, .int .i64 (((30 : Nat) : Int).tmod 8)] = some (.bool true) := run_bool (X := XK) (n := 400) okXK (by kernel_rfl)
theorem i27_31 : bodyR 27 [kD 31] = some (.bool true) := run_bool (X := XK) (n := 400) okXK (by kernel_rfl)
theorem i28_31 : bodyR 28 [kD 31, .int .i64 (((31 : Nat) : Int).tmod 8)] = some (.bool true) := run_bool (X := XK) (n := 400) okXK (by kernel_rfl)
theorem i27_32 : bodyR 27 [kD 32] = some (.bool true) := run_bool (X := XK) (n := 400) okXK (by kernel_rfl)
theorem i28_32 : bodyR 28 [kD 32, .int .i64 (((32 : Nat) : Int).tmod 8)] = some (.bool true) := run_bool (X := XK) (n := 400) okXK (by kernel_rfl)
theorem i27_33 : bodyR 27 [kD 33] = some (.bool true) := run_bool (X := XK) (n := 400) okXK (by kernel_rfl)
theorem i28_33 : bodyR 28 [kD 33, .int .i64 (((33 : Nat) : Int).tmod 8)] = some (.bool true) := run_bool (X := XK) (n := 400) okXK (by kernel_rfl)
theorem i27_34 : bodyR 27 [kD 34] = some (.bool true) := run_bool (X := XK) (n := 400) okXK (by kernel_rfl)
theorem i28_34 : bodyR 28 [kD 34, .int .i64 (((34 : Nat) : Int).tmod 8)] = some (.bool true) := run_bool (X := XK) (n := 400) okXK (by kernel_rfl)
end Go.Eng.E3
