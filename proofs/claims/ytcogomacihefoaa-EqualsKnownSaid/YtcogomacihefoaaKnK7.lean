import Derived.Test.YtcogomacihefoaaKnI
set_option linter.unusedVariables false
set_option linter.unusedSimpArgs false
set_option linter.unusedSectionVars false
set_option linter.deprecated false
namespace Go.Eng.E3
open Go Go.Eng Go.Proofs
set_option maxRecDepth 1000000
theorem i27_35 : bodyR 27 [kD 35] = some (.bool true) := run_bool (X := XK) (n := 400) okXK (by kernel_rfl)
theorem i28_35 : bodyR 28 [kD 35, .int .i64 (((35 : Nat) : Int).tmod 8)] = some (.bool true) := run_bool (X := XK) (n := 400) okXK (by kernel_rfl)
theorem i27_36 : bodyR 27 [kD 36] = some (.bool true) := run_bool (X := XK) (n := 400) okXK (by kernel_rfl)
theorem i28_36 : bodyR 28 [kD 36, .int .i64 (((36 : Nat) : Int).tmod 8)] = some (.bool true) := run_bool (X := XK) (n := 400) okXK (by kernel_rfl)
theorem i27_37 : bodyR 27 [kD 37] = some (.bool true) := run_bool (X := XK) (n := 400) okXK (by kernel_rfl)
theorem i28_37 : bodyR 28 [kD 37, .int .i64 (((37 : Nat) : Int).tmod 8)] = some (.bool true) := run_bool (X := XK) (n := 400) okXK (by kernel_rfl)
theorem i27_38 : bodyR 27 [kD 38] = some (.bool true) := run_bool (X := XK) (n := 400) okXK (by kernel_rfl)
theorem i28_38 : bodyR 28 [kD 38, .int .i64 (((38 : Nat) : Int).tmod 8)] = some (.bool true) := run_bool (X := XK) (n := 400) okXK (by kernel_rfl)
theorem i27_39 : bodyR 27 [kD 39] = some (.bool true) := run_bool (X := XK) (n := 400) okXK (by kernel_rfl)
theorem i28_39 : bodyR 28 [kD 39, .int .i64 (((39 : Nat) : Int).tmod 8)] = some (.bool true) := run_bool (X := XK) (n := 400) okXK (by kernel_rfl)
end Go.Eng.E3
