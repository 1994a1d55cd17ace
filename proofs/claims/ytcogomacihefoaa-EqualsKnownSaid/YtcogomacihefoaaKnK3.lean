import Derived.Test.YtcogomacihefoaaKnI
set_option linter.unusedVariables false
set_option linter.unusedSimpArgs false
set_option linter.unusedSectionVars false
set_option linter.deprecated false
namespace Go.Eng.E3
open Go Go.Eng Go.Proofs
set_option maxRecDepth 1000000
theorem i27_15 : bodyR 27 [kD 15] = some (.bool true) := run_bool (X := XK) (n := 400) okXK (by kernel_rfl)
theorem i28_15 : bodyR 28 [kD 15, .int .i64 (((15 : Nat) : Int).tmod 8)] = some (.bool true) := run_bool (X := XK) (n := 400) okXK (by kernel_rfl)
theorem i27_16 : bodyR 27 [kD 16] = some (.bool true) := run_bool (X := XK) (n := 400) okXK (by kernel_rfl)
theorem i28_16 : bodyR 28 [kD 16, .int .i64 (((16 : Nat) : Int).tmod 8)] = some (.bool true) := run_bool (X := XK) (n := 400) okXK (by kernel_rfl)
theorem i27_17 : bodyR 27 [kD 17] = some (.bool true) := run_bool (X := XK) (n := 400) okXK (by kernel_rfl)
theorem i28_17 : bodyR 28 [kD 17, .int .i64 (((17 : Nat) : Int).tmod 8)] = some (.bool true) := run_bool (X := XK) (n := 400) okXK (by kernel_rfl)
theorem i27_18 : bodyR 27 [kD 18] = some (.bool true) := run_bool (X := XK) (n := 400) okXK (by kernel_rfl)
theorem i28_18 : bodyR 28 [kD 18, .int .i64 (((18 : Nat) : Int).tmod 8)] = some (.bool true) := run_bool (X := XK) (n := 400) okXK (by kernel_rfl)
theorem i27_19 : bodyR 27 [kD 19] = some (.bool true) := run_bool (X := XK) (n := 400) okXK (by kernel_rfl)
theorem i28_19 : bodyR 28 [kD 19, .int .i64 (((19 : Nat) : Int).tmod 8)] = some (.bool true) := run_bool (X := XK) (n := 400) okXK (by kernel_rfl)
end Go.Eng.E3
