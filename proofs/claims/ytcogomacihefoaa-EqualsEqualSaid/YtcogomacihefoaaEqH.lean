/- Lemmas: C100, S100, SMat, S74a, S74b, S74c, S74d, S122, C85, S85, C111, S111, S77, S79, S51, S52, S20, S18, S50, SMatE, S49, S48a, S48b. -/
import Derived.Test.YtcogomacihefoaaEqG
set_option linter.unusedVariables false
set_option linter.unusedSimpArgs false
set_option linter.unusedSectionVars false
set_option linter.deprecated false
namespace Go.Eng.E3
open Go Go.Eng Go.Proofs
set_option maxRecDepth 100000

/-! ### 100: gauntlet/gauntletref07.apart -/
noncomputable def r100_0 : Code := navF Try.f100 [0]
noncomputable def o100_0 : List Oper := [sop (some 4) (.box 34 (.tmp 0)) none,
    sop (some 8) (.assign (.const (.int .i64 0))) none]
theorem xr100_0 : Xr 100 60 r100_0 o100_0 [] := execI_reg' (by kernel_rfl)
noncomputable def r100_1 : Code := navF Try.f100 [1, 0, 0]
noncomputable def o100_1 : List Oper := [sop (some 9) (.assign (.const (.int .i64 0))) none]
theorem xr100_1 : Xr 100 60 r100_1 o100_1 [] := execI_reg' (by kernel_rfl)
noncomputable def l100_0 : Code := navF Try.f100 [1, 0, 1, 0, 0]
noncomputable def r100_2 : Code := navF Try.f100 [1, 0, 1, 0, 0, 0, 0]
noncomputable def o100_2 : List Oper := [sop (some 12) (.move (.tmp 9)) none,
    sop (some 13) (.fieldAddr 34 (.tmp 4) 0) none,
    sop (some 14) (.load 3 (.tmp 13)) none,
    sop (some 15) (.binOp .lss 3 (.tmp 12) (.tmp 14) 3) none]
theorem xr100_2 : Xr 100 60 r100_2 o100_2 [] := execI_reg' (by kernel_rfl)
noncomputable def r100_4 : Code := navF Try.f100 [1, 0, 1, 0, 0, 1, 0, 0, 0]
noncomputable def o100_4 : List Oper := [sop (some 18) (.fieldAddr 34 (.tmp 4) 2) none,
    sop (some 19) (.load 32 (.tmp 18)) none,
    sop (some 20) (.move (.tmp 2)) none,
    sop (some 21) (.indexAddr 32 (.tmp 19) (.tmp 20)) none,
    sop (some 22) (.load 72 (.tmp 21)) none,
    sop (some 23) (.move (.tmp 9)) none,
    sop (some 24) (.indexAddr 72 (.tmp 22) (.tmp 23)) none,
    sop (some 25) (.load 55 (.tmp 24)) none,
    sop (some 26) (.fieldAddr 34 (.tmp 4) 2) none,
    sop (some 27) (.load 32 (.tmp 26)) none,
    sop (some 28) (.move (.tmp 3)) none,
    sop (some 29) (.indexAddr 32 (.tmp 27) (.tmp 28)) none,
    sop (some 30) (.load 72 (.tmp 29)) none,
    sop (some 31) (.move (.tmp 9)) none,
    sop (some 32) (.indexAddr 72 (.tmp 30) (.tmp 31)) none,
    sop (some 33) (.load 55 (.tmp 32)) none,
    sop (some 10) (.alloc 55) none,
    sop (some 11) (.alloc 55) none,
    sop none (.store 55 (.tmp 10) (.tmp 25)) none,
    sop none (.store 55 (.tmp 11) (.tmp 33)) none]
theorem xr100_4 : Xr 100 60 r100_4 o100_4 [(1, 9), (4, 9), (7, 9), (1, 12), (4, 12), (7, 12), (1, 15), (4, 15), (7, 15), (1, 16), (4, 16), (7, 16), (9, 16), (12, 16), (15, 16), (1, 17), (4, 17), (7, 17), (9, 17), (12, 17), (15, 17), (16, 17), (9, 18), (12, 18), (15, 18)] := execI_reg' (by kernel_rfl)
noncomputable def r100_5 : Code := navF Try.f100 [1, 0, 1, 0, 0, 1, 0, 0, 1, 0]
noncomputable def o100_5 : List Oper := [sop (some 34) (.fieldAddr 55 (.tmp 10) 1) none,
    sop (some 35) (.load 3 (.tmp 34)) none,
    sop (some 36) (.fieldAddr 55 (.tmp 11) 1) none,
    sop (some 37) (.load 3 (.tmp 36)) none,
    sop (some 38) (.binOp .neq 3 (.tmp 35) (.tmp 37) 3) none,
    sop (some 39) (.move (.tmp 38)) none,
    sop (some 40) (.fieldAddr 55 (.tmp 10) 0) (some (5, false)),
    sop (some 41) (.load 3 (.tmp 40)) (some (5, false)),
    sop (some 42) (.binOp .geq 3 (.tmp 41) (.const (.int .i64 0)) 3) (some (5, false)),
    sop (some 43) (.move (.tmp 42)) (some (5, false)),
    sop (some 44) (.fieldAddr 55 (.tmp 11) 0) (some (9, true)),
    sop (some 45) (.load 3 (.tmp 44)) (some (9, true)),
    sop (some 46) (.binOp .geq 3 (.tmp 45) (.const (.int .i64 0)) 3) (some (9, true)),
    sop (some 47) (.pick (.tmp 43) (.tmp 46) (.const (.bool false))) (some (5, false)),
    sop (some 48) (.move (.tmp 47)) (some (5, false)),
    sop (some 49) (.move (.tmp 1)) (some (14, true)),
    sop (some 50) (.fieldAddr 55 (.tmp 10) 0) (some (14, true)),
    sop (some 51) (.load 3 (.tmp 50)) (some (14, true)),
    sop (some 52) (.indexAddr 127 (.tmp 49) (.tmp 51)) (some (14, true)),
    sop (some 53) (.load 123 (.tmp 52)) (some (14, true)),
    sop (some 54) (.fieldAddr 55 (.tmp 11) 0) (some (14, true)),
    sop (some 55) (.load 3 (.tmp 54)) (some (14, true)),
    sop (some 56) (.indexAddr 123 (.tmp 53) (.tmp 55)) (some (14, true)),
    sop (some 57) (.load 4 (.tmp 56)) (some (14, true)),
    sop (some 58) (.pick (.tmp 48) (.tmp 57) (.const (.bool false))) (some (5, false)),
    sop (some 59) (.pick (.tmp 39) (.const (.bool true)) (.tmp 58)) none]
theorem xr100_5 : Xr 100 60 r100_5 o100_5 [(1, 3), (17, 21), (19, 21)] := execI_reg' (by kernel_rfl)
noncomputable def r100_6 : Code := navF Try.f100 [1, 0, 1, 0, 0, 1, 0, 0, 1, 1, 0, 0]
noncomputable def o100_6 : List Oper := [sop (some 8) (.assign (.const (.int .i64 1))) none]
theorem xr100_6 : Xr 100 60 r100_6 o100_6 [] := execI_reg' (by kernel_rfl)
noncomputable def r100_3 : Code := navF Try.f100 [1, 0, 1, 0, 0, 1, 1]
noncomputable def o100_3 : List Oper := [sop (some 16) (.move (.tmp 9)) none,
    sop (some 17) (.binOp .add 3 (.tmp 16) (.const (.int .i64 1)) 3) none,
    sop (some 9) (.assign (.tmp 17)) none]
theorem xr100_3 : Xr 100 60 r100_3 o100_3 [] := execI_reg' (by kernel_rfl)
theorem cl100_0 : l100_0 = (.seq (.seq r100_2 (.cond (.tmp 15) .skip (.exit 0))) (.seq (.block 1 (.seq r100_4 (.seq r100_5 (.cond (.tmp 59) (.seq r100_6 .ret) .skip)))) r100_3)) := by kernel_rfl
noncomputable def r100_7 : Code := navF Try.f100 [1, 1, 0]
noncomputable def o100_7 : List Oper := [sop (some 8) (.assign (.const (.int .i64 0))) none]
theorem xr100_7 : Xr 100 60 r100_7 o100_7 [] := execI_reg' (by kernel_rfl)
noncomputable def b100 : Code := (.seq r100_0 (.seq (.seq r100_1 (.block 0 (.loop l100_0))) (.seq r100_7 .ret)))
theorem body100 : Try.f100.body = some b100 := by kernel_rfl
theorem fn100 : E.fn 100 = some Try.f100 := by kernel_rfl
theorem run100 (args : List D) (h : H) (hl : args.length ≤ 60) : bodyI E 100 args h = resOf E [(.tmp 8)] (execI E 100 60 b100 ⟨argA args, h⟩) := bodyI_res fn100 body100 rfl rfl args h hl

/-! ### 74: gauntlet/gauntletref07.Marked -/
noncomputable def r74_0 : Code := navF Try.f74 [0]
noncomputable def o74_0 : List Oper := [sop (some 2) (.box 34 (.tmp 0)) none,
    sop (some 4) (.assign (.const (.slice none 0 0))) none]
theorem xr74_0 : Xr 74 68 r74_0 o74_0 [] := execI_reg' (by kernel_rfl)
noncomputable def r74_1 : Code := navF Try.f74 [1, 0]
noncomputable def o74_1 : List Oper := [sop (some 12) (.fieldAddr 34 (.tmp 2) 2) none,
    sop (some 13) (.load 32 (.tmp 12)) none,
    sop (some 14) (.call { callee := (.builtin .len), args := #[(.tmp 13)], argTypes := #[32] }) none,
    sop (some 5) (.assign (.tmp 14)) none]
theorem xr74_1 : Xr 74 68 r74_1 o74_1 [] := execI_reg' (by kernel_rfl)
noncomputable def r74_2 : Code := navF Try.f74 [1, 1, 0]
noncomputable def o74_2 : List Oper := [sop (some 6) (.assign (.const (.slice none 0 0))) none]
theorem xr74_2 : Xr 74 68 r74_2 o74_2 [] := execI_reg' (by kernel_rfl)
noncomputable def r74_3 : Code := navF Try.f74 [1, 1, 1, 0, 0]
noncomputable def o74_3 : List Oper := [sop (some 7) (.assign (.const (.int .i64 0))) none]
theorem xr74_3 : Xr 74 68 r74_3 o74_3 [] := execI_reg' (by kernel_rfl)
noncomputable def l74_0 : Code := navF Try.f74 [1, 1, 1, 0, 1, 0, 0]
noncomputable def r74_4 : Code := navF Try.f74 [1, 1, 1, 0, 1, 0, 0, 0, 0]
noncomputable def o74_4 : List Oper := [sop (some 15) (.move (.tmp 7)) none,
    sop (some 16) (.move (.tmp 5)) none,
    sop (some 17) (.binOp .lss 3 (.tmp 15) (.tmp 16) 3) none]
theorem xr74_4 : Xr 74 68 r74_4 o74_4 [] := execI_reg' (by kernel_rfl)
noncomputable def r74_6 : Code := navF Try.f74 [1, 1, 1, 0, 1, 0, 0, 1, 0, 0]
noncomputable def o74_6 : List Oper := [sop (some 20) (.move (.tmp 6)) none,
    sop (some 21) (.move (.tmp 5)) none,
    sop (some 22) (.makeSlice 123 (.tmp 21) (.tmp 21)) none,
    sop (some 23) (.buildSlice 127 1 #[(0, (.tmp 22))]) none,
    sop (some 24) (.call { callee := (.builtin .append), args := #[(.tmp 20), (.tmp 23)], argTypes := #[127, 127] }) none,
    sop (some 6) (.assign (.tmp 24)) none]
theorem xr74_6 : Xr 74 68 r74_6 o74_6 [] := execI_reg' (by kernel_rfl)
noncomputable def r74_5 : Code := navF Try.f74 [1, 1, 1, 0, 1, 0, 0, 1, 1]
noncomputable def o74_5 : List Oper := [sop (some 18) (.move (.tmp 7)) none,
    sop (some 19) (.binOp .add 3 (.tmp 18) (.const (.int .i64 1)) 3) none,
    sop (some 7) (.assign (.tmp 19)) none]
theorem xr74_5 : Xr 74 68 r74_5 o74_5 [] := execI_reg' (by kernel_rfl)
theorem cl74_0 : l74_0 = (.seq (.seq r74_4 (.cond (.tmp 17) .skip (.exit 0))) (.seq (.block 1 r74_6) r74_5)) := by kernel_rfl
noncomputable def r74_7 : Code := navF Try.f74 [1, 1, 1, 1, 0, 0]
noncomputable def o74_7 : List Oper := [sop (some 8) (.assign (.const (.int .i64 0))) none]
theorem xr74_7 : Xr 74 68 r74_7 o74_7 [] := execI_reg' (by kernel_rfl)
noncomputable def l74_1 : Code := navF Try.f74 [1, 1, 1, 1, 0, 1, 0, 0]
noncomputable def r74_8 : Code := navF Try.f74 [1, 1, 1, 1, 0, 1, 0, 0, 0, 0]
noncomputable def o74_8 : List Oper := [sop (some 25) (.move (.tmp 8)) none,
    sop (some 26) (.move (.tmp 1)) none,
    sop (some 27) (.binOp .lss 3 (.tmp 25) (.tmp 26) 3) none]
theorem xr74_8 : Xr 74 68 r74_8 o74_8 [] := execI_reg' (by kernel_rfl)
noncomputable def r74_10 : Code := navF Try.f74 [1, 1, 1, 1, 0, 1, 0, 0, 1, 0, 0, 0]
noncomputable def o74_10 : List Oper := [sop (some 9) (.assign (.const (.slice none 0 0))) none]
theorem xr74_10 : Xr 74 68 r74_10 o74_10 [] := execI_reg' (by kernel_rfl)
noncomputable def r74_11 : Code := navF Try.f74 [1, 1, 1, 1, 0, 1, 0, 0, 1, 0, 0, 1, 0, 0]
noncomputable def o74_11 : List Oper := [sop (some 10) (.assign (.const (.int .i64 0))) none]
theorem xr74_11 : Xr 74 68 r74_11 o74_11 [] := execI_reg' (by kernel_rfl)
noncomputable def l74_2 : Code := navF Try.f74 [1, 1, 1, 1, 0, 1, 0, 0, 1, 0, 0, 1, 0, 1, 0, 0]
noncomputable def r74_12 : Code := navF Try.f74 [1, 1, 1, 1, 0, 1, 0, 0, 1, 0, 0, 1, 0, 1, 0, 0, 0, 0]
noncomputable def o74_12 : List Oper := [sop (some 30) (.move (.tmp 10)) none,
    sop (some 31) (.move (.tmp 5)) none,
    sop (some 32) (.binOp .lss 3 (.tmp 30) (.tmp 31) 3) none]
theorem xr74_12 : Xr 74 68 r74_12 o74_12 [] := execI_reg' (by kernel_rfl)
noncomputable def r74_14 : Code := navF Try.f74 [1, 1, 1, 1, 0, 1, 0, 0, 1, 0, 0, 1, 0, 1, 0, 0, 1, 0, 0, 0]
noncomputable def o74_14 : List Oper := [sop (some 35) (.move (.tmp 9)) none,
    sop (some 36) (.move (.tmp 5)) none,
    sop (some 37) (.makeSlice 123 (.tmp 36) (.tmp 36)) none,
    sop (some 38) (.buildSlice 127 1 #[(0, (.tmp 37))]) none,
    sop (some 39) (.call { callee := (.builtin .append), args := #[(.tmp 35), (.tmp 38)], argTypes := #[127, 127] }) none,
    sop (some 9) (.assign (.tmp 39)) none]
theorem xr74_14 : Xr 74 68 r74_14 o74_14 [] := execI_reg' (by kernel_rfl)
noncomputable def r74_15 : Code := navF Try.f74 [1, 1, 1, 1, 0, 1, 0, 0, 1, 0, 0, 1, 0, 1, 0, 0, 1, 0, 0, 1, 0]
noncomputable def o74_15 : List Oper := [sop (some 11) (.assign (.const (.int .i64 0))) none]
theorem xr74_15 : Xr 74 68 r74_15 o74_15 [] := execI_reg' (by kernel_rfl)
noncomputable def l74_3 : Code := navF Try.f74 [1, 1, 1, 1, 0, 1, 0, 0, 1, 0, 0, 1, 0, 1, 0, 0, 1, 0, 0, 1, 1, 0, 0]
noncomputable def r74_16 : Code := navF Try.f74 [1, 1, 1, 1, 0, 1, 0, 0, 1, 0, 0, 1, 0, 1, 0, 0, 1, 0, 0, 1, 1, 0, 0, 0, 0]
noncomputable def o74_16 : List Oper := [sop (some 40) (.move (.tmp 11)) none,
    sop (some 41) (.move (.tmp 5)) none,
    sop (some 42) (.binOp .lss 3 (.tmp 40) (.tmp 41) 3) none]
theorem xr74_16 : Xr 74 68 r74_16 o74_16 [] := execI_reg' (by kernel_rfl)
noncomputable def r74_18 : Code := navF Try.f74 [1, 1, 1, 1, 0, 1, 0, 0, 1, 0, 0, 1, 0, 1, 0, 0, 1, 0, 0, 1, 1, 0, 0, 1, 0, 0]
noncomputable def o74_18 : List Oper := [sop (some 45) (.move (.tmp 9)) none,
    sop (some 46) (.move (.tmp 10)) none,
    sop (some 47) (.indexAddr 127 (.tmp 45) (.tmp 46)) none,
    sop (some 48) (.load 123 (.tmp 47)) none,
    sop (some 49) (.move (.tmp 11)) none,
    sop (some 50) (.move (.tmp 6)) none,
    sop (some 51) (.move (.tmp 10)) none,
    sop (some 52) (.indexAddr 127 (.tmp 50) (.tmp 51)) none,
    sop (some 53) (.load 123 (.tmp 52)) none,
    sop (some 54) (.move (.tmp 11)) none,
    sop (some 55) (.indexAddr 123 (.tmp 53) (.tmp 54)) none,
    sop (some 56) (.load 4 (.tmp 55)) none,
    sop (some 57) (.move (.tmp 56)) none,
    sop (some 58) (.load 34 (.tmp 2)) (some (12, false)),
    sop (some 59) (.move (.tmp 6)) (some (12, false)),
    sop (some 60) (.move (.tmp 10)) (some (12, false)),
    sop (some 61) (.move (.tmp 11)) (some (12, false)),
    sop (some 62) (.call { callee := (.value (.func 100)), args := #[(.tmp 58), (.tmp 59), (.tmp 60), (.tmp 61)], argTypes := #[34, 127, 3, 3] }) (some (12, false)),
    sop (some 63) (.binOp .eql 3 (.tmp 62) (.const (.int .i64 1)) 3) (some (12, false)),
    sop (some 64) (.pick (.tmp 57) (.const (.bool true)) (.tmp 63)) none,
    sop (some 65) (.indexAddr 123 (.tmp 48) (.tmp 49)) none,
    sop none (.store 4 (.tmp 65) (.tmp 64)) none]
theorem xr74_18 : Xr 74 68 r74_18 o74_18 [(3, 8), (3, 11), (3, 13), (3, 17)] := execI_reg' (by kernel_rfl)
noncomputable def r74_17 : Code := navF Try.f74 [1, 1, 1, 1, 0, 1, 0, 0, 1, 0, 0, 1, 0, 1, 0, 0, 1, 0, 0, 1, 1, 0, 0, 1, 1]
noncomputable def o74_17 : List Oper := [sop (some 43) (.move (.tmp 11)) none,
    sop (some 44) (.binOp .add 3 (.tmp 43) (.const (.int .i64 1)) 3) none,
    sop (some 11) (.assign (.tmp 44)) none]
theorem xr74_17 : Xr 74 68 r74_17 o74_17 [] := execI_reg' (by kernel_rfl)
theorem cl74_3 : l74_3 = (.seq (.seq r74_16 (.cond (.tmp 42) .skip (.exit 6))) (.seq (.block 7 r74_18) r74_17)) := by kernel_rfl
noncomputable def r74_13 : Code := navF Try.f74 [1, 1, 1, 1, 0, 1, 0, 0, 1, 0, 0, 1, 0, 1, 0, 0, 1, 1]
noncomputable def o74_13 : List Oper := [sop (some 33) (.move (.tmp 10)) none,
    sop (some 34) (.binOp .add 3 (.tmp 33) (.const (.int .i64 1)) 3) none,
    sop (some 10) (.assign (.tmp 34)) none]
theorem xr74_13 : Xr 74 68 r74_13 o74_13 [] := execI_reg' (by kernel_rfl)
theorem cl74_2 : l74_2 = (.seq (.seq r74_12 (.cond (.tmp 32) .skip (.exit 4))) (.seq (.block 5 (.seq r74_14 (.seq r74_15 (.block 6 (.loop l74_3))))) r74_13)) := by kernel_rfl
noncomputable def r74_19 : Code := navF Try.f74 [1, 1, 1, 1, 0, 1, 0, 0, 1, 0, 0, 1, 1]
noncomputable def o74_19 : List Oper := [sop (some 66) (.move (.tmp 9)) none,
    sop (some 6) (.assign (.tmp 66)) none]
theorem xr74_19 : Xr 74 68 r74_19 o74_19 [] := execI_reg' (by kernel_rfl)
noncomputable def r74_9 : Code := navF Try.f74 [1, 1, 1, 1, 0, 1, 0, 0, 1, 1]
noncomputable def o74_9 : List Oper := [sop (some 28) (.move (.tmp 8)) none,
    sop (some 29) (.binOp .add 3 (.tmp 28) (.const (.int .i64 1)) 3) none,
    sop (some 8) (.assign (.tmp 29)) none]
theorem xr74_9 : Xr 74 68 r74_9 o74_9 [] := execI_reg' (by kernel_rfl)
theorem cl74_1 : l74_1 = (.seq (.seq r74_8 (.cond (.tmp 27) .skip (.exit 2))) (.seq (.block 3 (.seq r74_10 (.seq (.seq r74_11 (.block 4 (.loop l74_2))) r74_19))) r74_9)) := by kernel_rfl
noncomputable def r74_20 : Code := navF Try.f74 [1, 1, 1, 1, 1, 0]
noncomputable def o74_20 : List Oper := [sop (some 67) (.move (.tmp 6)) none,
    sop (some 4) (.assign (.tmp 67)) none]
theorem xr74_20 : Xr 74 68 r74_20 o74_20 [] := execI_reg' (by kernel_rfl)
noncomputable def b74 : Code := (.seq r74_0 (.seq r74_1 (.seq r74_2 (.seq (.seq r74_3 (.block 0 (.loop l74_0))) (.seq (.seq r74_7 (.block 2 (.loop l74_1))) (.seq r74_20 .ret))))))
theorem body74 : Try.f74.body = some b74 := by kernel_rfl
theorem fn74 : E.fn 74 = some Try.f74 := by kernel_rfl
theorem run74 (args : List D) (h : H) (hl : args.length ≤ 68) : bodyI E 74 args h = resOf E [(.tmp 4)] (execI E 74 68 b74 ⟨argA args, h⟩) := bodyI_res fn74 body74 rfl rfl args h hl

/-! ### 101: gauntlet/gauntletref07.Rounds -/
noncomputable def r101_0 : Code := navF Try.f101 [0]
noncomputable def o101_0 : List Oper := [sop (some 2) (.box 34 (.tmp 0)) none,
    sop (some 4) (.assign (.const (.slice none 0 0))) none]
theorem xr101_0 : Xr 101 9 r101_0 o101_0 [] := execI_reg' (by kernel_rfl)
noncomputable def r101_1 : Code := navF Try.f101 [1, 0]
noncomputable def o101_1 : List Oper := [sop (some 5) (.load 34 (.tmp 2)) none,
    sop (some 6) (.move (.tmp 1)) none,
    sop (some 7) (.call { callee := (.value (.func 74)), args := #[(.tmp 5), (.tmp 6)], argTypes := #[34, 3] }) none,
    sop (some 8) (.call { callee := (.value (.func 122)), args := #[(.tmp 7)], argTypes := #[127] }) none,
    sop (some 4) (.assign (.tmp 8)) none]
theorem xr101_1 : Xr 101 9 r101_1 o101_1 [] := execI_reg' (by kernel_rfl)
noncomputable def b101 : Code := (.seq r101_0 (.seq r101_1 .ret))
theorem body101 : Try.f101.body = some b101 := by kernel_rfl
theorem fn101 : E.fn 101 = some Try.f101 := by kernel_rfl
theorem run101 (args : List D) (h : H) (hl : args.length ≤ 9) : bodyI E 101 args h = resOf E [(.tmp 4)] (execI E 101 9 b101 ⟨argA args, h⟩) := bodyI_res fn101 body101 rfl rfl args h hl

/-! ### 77: gauntlet/gauntletref07.Classes -/
noncomputable def r77_0 : Code := navF Try.f77 [0]
noncomputable def o77_0 : List Oper := [sop (some 1) (.box 34 (.tmp 0)) none,
    sop (some 2) (.assign (.const (.slice none 0 0))) none]
theorem xr77_0 : Xr 77 8 r77_0 o77_0 [] := execI_reg' (by kernel_rfl)
noncomputable def r77_1 : Code := navF Try.f77 [1, 0]
noncomputable def o77_1 : List Oper := [sop (some 3) (.load 34 (.tmp 1)) none,
    sop (some 4) (.fieldAddr 34 (.tmp 1) 2) none,
    sop (some 5) (.load 32 (.tmp 4)) none,
    sop (some 6) (.call { callee := (.builtin .len), args := #[(.tmp 5)], argTypes := #[32] }) none,
    sop (some 7) (.call { callee := (.value (.func 101)), args := #[(.tmp 3), (.tmp 6)], argTypes := #[34, 3] }) none,
    sop (some 2) (.assign (.tmp 7)) none]
theorem xr77_1 : Xr 77 8 r77_1 o77_1 [] := execI_reg' (by kernel_rfl)
noncomputable def b77 : Code := (.seq r77_0 (.seq r77_1 .ret))
theorem body77 : Try.f77.body = some b77 := by kernel_rfl
theorem fn77 : E.fn 77 = some Try.f77 := by kernel_rfl
theorem run77 (args : List D) (h : H) (hl : args.length ≤ 8) : bodyI E 77 args h = resOf E [(.tmp 2)] (execI E 77 8 b77 ⟨argA args, h⟩) := bodyI_res fn77 body77 rfl rfl args h hl

/-! ### 122: gauntlet/gauntletref07.Partition -/
noncomputable def r122_0 : Code := navF Try.f122 [0]
noncomputable def o122_0 : List Oper := [sop (some 2) (.assign (.const (.slice none 0 0))) none]
theorem xr122_0 : Xr 122 41 r122_0 o122_0 [] := execI_reg' (by kernel_rfl)
noncomputable def r122_1 : Code := navF Try.f122 [1, 0]
noncomputable def o122_1 : List Oper := [sop (some 3) (.assign (.const (.slice none 0 0))) none]
theorem xr122_1 : Xr 122 41 r122_1 o122_1 [] := execI_reg' (by kernel_rfl)
noncomputable def r122_2 : Code := navF Try.f122 [1, 1, 0]
noncomputable def o122_2 : List Oper := [sop (some 4) (.assign (.const (.int .i64 0))) none]
theorem xr122_2 : Xr 122 41 r122_2 o122_2 [] := execI_reg' (by kernel_rfl)
noncomputable def r122_3 : Code := navF Try.f122 [1, 1, 1, 0, 0]
noncomputable def o122_3 : List Oper := [sop (some 5) (.assign (.const (.int .i64 0))) none]
theorem xr122_3 : Xr 122 41 r122_3 o122_3 [] := execI_reg' (by kernel_rfl)
noncomputable def l122_0 : Code := navF Try.f122 [1, 1, 1, 0, 1, 0, 0]
noncomputable def r122_4 : Code := navF Try.f122 [1, 1, 1, 0, 1, 0, 0, 0, 0]
noncomputable def o122_4 : List Oper := [sop (some 8) (.move (.tmp 5)) none,
    sop (some 9) (.move (.tmp 0)) none,
    sop (some 10) (.call { callee := (.builtin .len), args := #[(.tmp 9)], argTypes := #[127] }) none,
    sop (some 11) (.binOp .lss 3 (.tmp 8) (.tmp 10) 3) none]
theorem xr122_4 : Xr 122 41 r122_4 o122_4 [] := execI_reg' (by kernel_rfl)
noncomputable def r122_6 : Code := navF Try.f122 [1, 1, 1, 0, 1, 0, 0, 1, 0, 0, 0]
noncomputable def o122_6 : List Oper := [sop (some 6) (.assign (.const (.int .i64 (-1)))) none]
theorem xr122_6 : Xr 122 41 r122_6 o122_6 [] := execI_reg' (by kernel_rfl)
noncomputable def r122_7 : Code := navF Try.f122 [1, 1, 1, 0, 1, 0, 0, 1, 0, 0, 1, 0, 0]
noncomputable def o122_7 : List Oper := [sop (some 7) (.assign (.const (.int .i64 0))) none]
theorem xr122_7 : Xr 122 41 r122_7 o122_7 [] := execI_reg' (by kernel_rfl)
noncomputable def l122_1 : Code := navF Try.f122 [1, 1, 1, 0, 1, 0, 0, 1, 0, 0, 1, 0, 1, 0, 0]
noncomputable def r122_8 : Code := navF Try.f122 [1, 1, 1, 0, 1, 0, 0, 1, 0, 0, 1, 0, 1, 0, 0, 0, 0]
noncomputable def o122_8 : List Oper := [sop (some 14) (.move (.tmp 7)) none,
    sop (some 15) (.move (.tmp 5)) none,
    sop (some 16) (.binOp .lss 3 (.tmp 14) (.tmp 15) 3) none]
theorem xr122_8 : Xr 122 41 r122_8 o122_8 [] := execI_reg' (by kernel_rfl)
noncomputable def r122_10 : Code := navF Try.f122 [1, 1, 1, 0, 1, 0, 0, 1, 0, 0, 1, 0, 1, 0, 0, 1, 0, 0, 0]
noncomputable def o122_10 : List Oper := [sop (some 19) (.move (.tmp 0)) none,
    sop (some 20) (.move (.tmp 5)) none,
    sop (some 21) (.indexAddr 127 (.tmp 19) (.tmp 20)) none,
    sop (some 22) (.load 123 (.tmp 21)) none,
    sop (some 23) (.move (.tmp 7)) none,
    sop (some 24) (.indexAddr 123 (.tmp 22) (.tmp 23)) none,
    sop (some 25) (.load 4 (.tmp 24)) none,
    sop (some 26) (.unOp .not 4 (.tmp 25)) none]
theorem xr122_10 : Xr 122 41 r122_10 o122_10 [] := execI_reg' (by kernel_rfl)
noncomputable def r122_11 : Code := navF Try.f122 [1, 1, 1, 0, 1, 0, 0, 1, 0, 0, 1, 0, 1, 0, 0, 1, 0, 0, 1, 0]
noncomputable def o122_11 : List Oper := [sop (some 27) (.move (.tmp 3)) none,
    sop (some 28) (.move (.tmp 7)) none,
    sop (some 29) (.indexAddr 62 (.tmp 27) (.tmp 28)) none,
    sop (some 30) (.load 3 (.tmp 29)) none,
    sop (some 6) (.assign (.tmp 30)) none]
theorem xr122_11 : Xr 122 41 r122_11 o122_11 [] := execI_reg' (by kernel_rfl)
noncomputable def r122_9 : Code := navF Try.f122 [1, 1, 1, 0, 1, 0, 0, 1, 0, 0, 1, 0, 1, 0, 0, 1, 1]
noncomputable def o122_9 : List Oper := [sop (some 17) (.move (.tmp 7)) none,
    sop (some 18) (.binOp .add 3 (.tmp 17) (.const (.int .i64 1)) 3) none,
    sop (some 7) (.assign (.tmp 18)) none]
theorem xr122_9 : Xr 122 41 r122_9 o122_9 [] := execI_reg' (by kernel_rfl)
theorem cl122_1 : l122_1 = (.seq (.seq r122_8 (.cond (.tmp 16) .skip (.exit 2))) (.seq (.block 3 (.seq r122_10 (.cond (.tmp 26) r122_11 .skip))) r122_9)) := by kernel_rfl
noncomputable def r122_12 : Code := navF Try.f122 [1, 1, 1, 0, 1, 0, 0, 1, 0, 0, 1, 1, 0, 0]
noncomputable def o122_12 : List Oper := [sop (some 31) (.move (.tmp 6)) none,
    sop (some 32) (.binOp .lss 3 (.tmp 31) (.const (.int .i64 0)) 3) none]
theorem xr122_12 : Xr 122 41 r122_12 o122_12 [] := execI_reg' (by kernel_rfl)
noncomputable def r122_13 : Code := navF Try.f122 [1, 1, 1, 0, 1, 0, 0, 1, 0, 0, 1, 1, 0, 1, 0, 0]
noncomputable def o122_13 : List Oper := [sop (some 33) (.move (.tmp 4)) none,
    sop (some 6) (.assign (.tmp 33)) none]
theorem xr122_13 : Xr 122 41 r122_13 o122_13 [] := execI_reg' (by kernel_rfl)
noncomputable def r122_14 : Code := navF Try.f122 [1, 1, 1, 0, 1, 0, 0, 1, 0, 0, 1, 1, 0, 1, 0, 1]
noncomputable def o122_14 : List Oper := [sop (some 34) (.move (.tmp 4)) none,
    sop (some 35) (.binOp .add 3 (.tmp 34) (.const (.int .i64 1)) 3) none,
    sop (some 4) (.assign (.tmp 35)) none]
theorem xr122_14 : Xr 122 41 r122_14 o122_14 [] := execI_reg' (by kernel_rfl)
noncomputable def r122_15 : Code := navF Try.f122 [1, 1, 1, 0, 1, 0, 0, 1, 0, 0, 1, 1, 1]
noncomputable def o122_15 : List Oper := [sop (some 36) (.move (.tmp 3)) none,
    sop (some 37) (.move (.tmp 6)) none,
    sop (some 38) (.buildSlice 62 1 #[(0, (.tmp 37))]) none,
    sop (some 39) (.call { callee := (.builtin .append), args := #[(.tmp 36), (.tmp 38)], argTypes := #[62, 62] }) none,
    sop (some 3) (.assign (.tmp 39)) none]
theorem xr122_15 : Xr 122 41 r122_15 o122_15 [] := execI_reg' (by kernel_rfl)
noncomputable def r122_5 : Code := navF Try.f122 [1, 1, 1, 0, 1, 0, 0, 1, 1]
noncomputable def o122_5 : List Oper := [sop (some 12) (.move (.tmp 5)) none,
    sop (some 13) (.binOp .add 3 (.tmp 12) (.const (.int .i64 1)) 3) none,
    sop (some 5) (.assign (.tmp 13)) none]
theorem xr122_5 : Xr 122 41 r122_5 o122_5 [] := execI_reg' (by kernel_rfl)
theorem cl122_0 : l122_0 = (.seq (.seq r122_4 (.cond (.tmp 11) .skip (.exit 0))) (.seq (.block 1 (.seq r122_6 (.seq (.seq r122_7 (.block 2 (.loop l122_1))) (.seq (.seq r122_12 (.cond (.tmp 32) (.seq r122_13 r122_14) .skip)) r122_15)))) r122_5)) := by kernel_rfl
noncomputable def r122_16 : Code := navF Try.f122 [1, 1, 1, 1, 0]
noncomputable def o122_16 : List Oper := [sop (some 40) (.move (.tmp 3)) none,
    sop (some 2) (.assign (.tmp 40)) none]
theorem xr122_16 : Xr 122 41 r122_16 o122_16 [] := execI_reg' (by kernel_rfl)
noncomputable def b122 : Code := (.seq r122_0 (.seq r122_1 (.seq r122_2 (.seq (.seq r122_3 (.block 0 (.loop l122_0))) (.seq r122_16 .ret)))))
theorem body122 : Try.f122.body = some b122 := by kernel_rfl
theorem fn122 : E.fn 122 = some Try.f122 := by kernel_rfl
theorem run122 (args : List D) (h : H) (hl : args.length ≤ 41) : bodyI E 122 args h = resOf E [(.tmp 2)] (execI E 122 41 b122 ⟨argA args, h⟩) := bodyI_res fn122 body122 rfl rfl args h hl
end Go.Eng.E3

namespace Go.Eng.E3
open Go Go.Eng Go.Proofs
set_option maxRecDepth 100000
attribute [local simp] execR runOps stepOp wantedD evalOp opd upd St.put Eff.apply upds looseOk FP.free FP.idle apart Eff.fp ofVal loadD storeD partD setPart indexAddrD isShift arith unD callOp mapO D.okc pickD buildable buildD placeD convD
set_option linter.unusedSimpArgs false
set_option maxHeartbeats 2000000

def edge (m : M) (s i : Nat) : Int × Int := (m.rows.getD s []).getD i (0, 0)
def mget (mk : List (List Bool)) (a b : Nat) : Bool := (mk.getD a []).getD b false
def apartAt (m : M) (mk : List (List Bool)) (s t i : Nat) : Bool :=
  !decide ((edge m s i).2 = (edge m t i).2) || (decide (0 ≤ (edge m s i).1) && (decide (0 ≤ (edge m t i).1) && mget mk (edge m s i).1.toNat (edge m t i).1.toNat))
def apartN (m : M) (mk : List (List Bool)) (s t : Nat) : Nat → Nat → Bool
  | 0, _ => false
  | k + 1, i => apartAt m mk s t i || apartN m mk s t k (i + 1)

def boolRow (r : List Bool) : D := .frz (r.map D.bool) .unk
def markD (mk : List (List Bool)) : D := .frz (mk.map boolRow) .unk

structure Sq (n : Nat) (mk : List (List Bool)) : Prop where
  l : mk.length = n
  r : ∀ x ∈ mk, x.length = n

structure I100 (m : M) (mk : List (List Bool)) (s t : Nat) (k : Nat) (st : St) : Prop where
  le : k ≤ m.ins
  h1 : st.A 1 = .frz (mk.map boolRow) .unk
  h2 : st.A 2 = .int .i64 s
  h3 : st.A 3 = .int .i64 t
  h4 : st.A 4 = .ptr 0 0 0
  h9 : st.A 9 = .int .i64 ((m.ins - k : Nat) : Int)
  hb : st.h.blk 0 = .live 3 [encM m]
  hn : 0 < st.h.next
  no : apartN m mk s t m.ins 0 = apartN m mk s t k (m.ins - k)

theorem spec100 {m : M} {mk : List (List Bool)} {s t : Nat} (hv : Valid m) (hk : Sq m.rows.length mk) (hs : s < m.rows.length) (ht : t < m.rows.length) :
    bodyR 100 [encM m, markD mk, .int .i64 s, .int .i64 t] = some (.int .i64 (if apartN m mk s t m.ins 0 then 1 else 0)) := by
  have i2 := hv.i2
  refine bodyR_V (run100 _ _ (by simp)) ?_
  unfold b100
  refine .then xr100_0 (by simp [o100_0, builtinD, lenD, pD, argA, encM, markD]; rfl) ?_
  refine .assoc (.then xr100_1 (by simp [o100_1, builtinD, lenD, pD, argA]; rfl) ?_)
  refine .seq (.block (V.count (I100 m mk s t) ?_ ?_ m.ins _ ⟨Nat.le_refl _, by simp [upd, argA], by simp [upd, argA], by simp [upd, argA], by simp [upd], by simp [upd], by simp [upd, encM], by simp, by simp⟩))
  · rintro k ⟨A, h⟩ ⟨le, h1, h2, h3, h4, h9, hb, hn, no⟩
    have hlt : m.ins - (k + 1) < m.ins := by omega
    generalize hi : m.ins - (k + 1) = i at *
    have hk' : m.ins - k = i + 1 := by omega
    have hw : IntKind.i64.wrap ((i : Int) + 1) = ((i + 1 : Nat) : Int) := by rw [wrap_id] <;> omega
    have hls : i < m.rows[s].length := by rw [hv.len _ (List.getElem_mem hs)]; exact hlt
    have hlt' : i < m.rows[t].length := by rw [hv.len _ (List.getElem_mem ht)]; exact hlt
    have es : edge m s i = m.rows[s][i] := by simp [edge, hs, hls]
    have et : edge m t i = m.rows[t][i] := by simp [edge, ht, hlt']
    simp only at h1 h2 h3 h4 h9 hb hn
    have hb0 : ∀ j, (0 = h.next + j) = False := fun j => by simp; omega
    have hb1 : (0 = h.next) = False := by simp; omega
    rw [cl100_0]
    refine .assoc (.then xr100_2 (by simp [o100_2, builtinD, lenD, pD, argA, h9, h4, hb, encM]; rfl) ?_)
    refine .head (by simp [opd, upd]; rfl) (fun _ => ?_) (fun hf => by simp [hlt] at hf)
    refine .seq (.block (.then xr100_4 (by simp [o100_4, builtinD, lenD, pD, argA, h1, h2, h3, h4, h9, hb, encM, hs, ht, hls, hlt', hb0, hb1, rowD]; rfl) ?_))
    have hxo := hv.ok _ (List.getElem_mem hs) _ (List.getElem_mem hls)
    have hyo := hv.ok _ (List.getElem_mem ht) _ (List.getElem_mem hlt')
    generalize m.rows[s][i] = x at *
    generalize m.rows[t][i] = y at *
    -- what is left, whatever the value of the test is
    have fin : ∀ (A' : Nat → D) (h' : H) (v : Bool) (Q : Po), A' 59 = .bool v → apartAt m mk s t i = v → A' 1 = A 1 → A' 2 = A 2 → A' 3 = A 3 → A' 4 = A 4 → A' 9 = A 9 → h'.blk 0 = h.blk 0 → 0 < h'.next →
        (∀ st, st.A 8 = .int .i64 1 → apartN m mk s t m.ins 0 = true → Q.r st) → (∀ st, I100 m mk s t k st → Q.n st) →
        V E 100 60 (.cond (.tmp 59) (.seq r100_6 .ret) .skip) ⟨A', h'⟩ ((Q.upto fun s' => V E 100 60 r100_3 s' Q).within 1) := by
      intro A' h' v Q e59 ev e1 e2 e3 e4 e9 eb en hr hn'
      refine .cond (v := v) (by simp [opd, e59]) (fun hvt => ?_) (fun hvf => .skip ?_)
      · refine .then xr100_6 (by simp [o100_6, builtinD, lenD, pD, argA]; rfl) (.ret (hr _ (by simp [upd]) ?_))
        rw [no, apartN, ev, hvt]; rfl
      · refine .reg xr100_3 (by simp [o100_3, builtinD, lenD, pD, argA, e9, h9]; rfl) (hn' _ ⟨by omega, ?_, ?_, ?_, ?_, ?_, ?_, ?_, ?_⟩)
        · simp [upd, e1, h1]
        · simp [upd, e2, h2]
        · simp [upd, e3, h3]
        · simp [upd, e4, h4]
        · simp [upd, hk', hw]
        · simp [upds, eb, hb]
        · simp <;> omega
        · rw [no, apartN, ev, hvf, hk']; rfl
    have hres : ∀ st : St, st.A 8 = .int .i64 1 → apartN m mk s t m.ins 0 = true → ∃ v, resultsD E [.tmp 8] st = some v ∧ (snap true st.h.blk snapDepth v).map (·.1) = some (.int .i64 (if apartN m mk s t m.ins 0 = true then 1 else 0)) := fun st e8 ea =>
      ⟨_, by simp [resultsD, mapO, resultD, e8]; rfl, by simp [snap, snapDepth, ea]⟩
    by_cases c1 : x.2 = y.2
    · by_cases c2 : 0 ≤ x.1
      · by_cases c3 : 0 ≤ y.1
        · have hxa : x.1.toNat < mk.length := by rw [hk.l]; rcases hxo with rfl | hxo; · simp at c2
                                                 omega
          have hra : mk[x.1.toNat].length = m.rows.length := hk.r _ (List.getElem_mem hxa)
          have hyb : y.1.toNat < mk[x.1.toNat].length := by rw [hra]; rcases hyo with rfl | hyo; · simp at c3
                                                            omega
          have hxi : x.1 < (mk.length : Int) := by omega
          have hyi : y.1 < (mk[x.1.toNat].length : Int) := by omega
          refine .then xr100_5 (by simp [o100_5, builtinD, lenD, pD, argA, c1, c2, c3, hxa, hyb, hxi, hyi, boolRow, h1, hb0, hb1]; rfl) ?_
          refine fin _ _ mk[x.1.toNat][y.1.toNat] _ ?_ ?_ ?_ ?_ ?_ ?_ ?_ ?_ ?_ (fun st e8 ea => hres st e8 ea) (fun st hst => hst)
          · simp [upd]
          · simp [apartAt, es, et, c1, c2, c3, mget, hxa, hyb]
          · simp [upd]
          · simp [upd]
          · simp [upd]
          · simp [upd]
          · simp [upd]
          · simp [upd, upds, hb0]
          · simp <;> omega
        · refine .then xr100_5 (by simp [o100_5, builtinD, lenD, pD, argA, c1, c2, c3, h1, hb0, hb1]; rfl) ?_
          refine fin _ _ false _ ?_ ?_ ?_ ?_ ?_ ?_ ?_ ?_ ?_ (fun st e8 ea => hres st e8 ea) (fun st hst => hst)
          · simp [upd]
          · simp [apartAt, es, et, c1, c2, c3]
          · simp [upd]
          · simp [upd]
          · simp [upd]
          · simp [upd]
          · simp [upd]
          · simp [upd, upds, hb0]
          · simp <;> omega
      · refine .then xr100_5 (by simp [o100_5, builtinD, lenD, pD, argA, c1, c2, h1, hb0, hb1]; rfl) ?_
        refine fin _ _ false _ ?_ ?_ ?_ ?_ ?_ ?_ ?_ ?_ ?_ (fun st e8 ea => hres st e8 ea) (fun st hst => hst)
        · simp [upd]
        · simp [apartAt, es, et, c1, c2]
        · simp [upd]
        · simp [upd]
        · simp [upd]
        · simp [upd]
        · simp [upd]
        · simp [upd, upds, hb0]
        · simp <;> omega
    · have c1b : (x.2 != y.2) = true := by simp [c1]
      refine .then xr100_5 (by simp [o100_5, builtinD, lenD, pD, argA, c1b, h1, hb0, hb1]; rfl) ?_
      refine fin _ _ true _ ?_ ?_ ?_ ?_ ?_ ?_ ?_ ?_ ?_ (fun st e8 ea => hres st e8 ea) (fun st hst => hst)
      · simp [upd]
      · simp [apartAt, es, et, c1]
      · simp [upd]
      · simp [upd]
      · simp [upd]
      · simp [upd]
      · simp [upd]
      · simp [upd, upds, hb0]
      · simp <;> omega
  · rintro ⟨A, h⟩ ⟨le, h1, h2, h3, h4, h9, hb, hn, no⟩
    simp only at h1 h2 h3 h4 h9 hb hn
    rw [cl100_0]
    refine .assoc (.then xr100_2 (by simp [o100_2, builtinD, lenD, pD, argA, h9, h4, hb, encM]; rfl) ?_)
    refine .head (by simp [opd, upd]; rfl) (fun hf => by simp at hf) (fun _ => ?_)
    refine .then xr100_7 (by simp [o100_7, builtinD, lenD, pD, argA]; rfl) (.ret ⟨_, by simp [resultsD, mapO, resultD, upd]; rfl, ?_⟩)
    rw [no]
    simp [snap, snapDepth, apartN]

theorem snap_mark (kp : Bool) (blk : Nat → Blk) (n : Nat) (mk : List (List Bool)) : snap kp blk (n + 3) (markD mk) = some (markD mk, []) := by
  have hr : ∀ r : List Bool, snap false blk (n + 2) (boolRow r) = some (boolRow r, []) := fun r => by
    show (match mapK (snap false blk (n + 1)) (r.map D.bool) with | some (ys, k) => some (D.frz ys (Tok.fade false .unk), k) | none => none) = _
    rw [mapK_map r fun x _ => rfl]
    rfl
  show (match mapK (snap false blk (n + 2)) (mk.map boolRow) with | some (ys, k) => some (D.frz ys (Tok.fade kp .unk), k) | none => none) = _
  rw [mapK_map mk fun x _ => hr x]
  rfl
end Go.Eng.E3

namespace Go.Eng.E3
open Go Go.Eng Go.Proofs
set_option maxRecDepth 100000
attribute [local simp] execR runOps stepOp wantedD evalOp opd upd St.put Eff.apply upds looseOk FP.free FP.idle apart Eff.fp ofVal loadD storeD partD setPart indexAddrD isShift arith unD callOp mapO D.okc pickD buildable buildD placeD convD
set_option linter.unusedSimpArgs false

/-! ### Matrices of bools in the heap -/

def rowV (n c : Nat) : D := .sl c 1 0 n true

def Mat (h : H) (v : D) (mk : List (List Bool)) (n lo hi : Nat) : Prop :=
  (mk = [] ∧ v = .frz [] .nil) ∨ ∃ (b : Nat) (bs : List Nat) (_ : Unit), v = .sl b 1 0 mk.length false ∧ h.blk b = .live 1 (bs.map (rowV n)) ∧ bs.length = mk.length ∧ lo ≤ b ∧ b < hi ∧
    (∀ c ∈ bs, lo ≤ c ∧ c < hi ∧ c ≠ b) ∧ bs.Nodup ∧ ∀ (i c : Nat) (r : List Bool), bs[i]? = some c → mk[i]? = some r → h.blk c = .live 1 (r.map .bool) ∧ r.length = n

theorem Mat.frame {h h' : H} {v : D} {mk : List (List Bool)} {n lo hi : Nat} (m : Mat h v mk n lo hi) (e : ∀ b, lo ≤ b → b < hi → h'.blk b = h.blk b) : Mat h' v mk n lo hi := by
  rcases m with m | ⟨b, bs, ex, h1, h2, h3, h4, h5, h6, h7, h8⟩
  · exact .inl m
  · refine .inr ⟨b, bs, ex, h1, by rw [e b h4 h5]; exact h2, h3, h4, h5, h6, h7, fun i c r hc hr => ?_⟩
    obtain ⟨q1, q2, _⟩ := h6 c (List.mem_of_getElem? hc)
    rw [e c q1 q2]
    exact h8 i c r hc hr

theorem Mat.wide {h : H} {v : D} {mk : List (List Bool)} {n lo hi hi' : Nat} (m : Mat h v mk n lo hi) (e : hi ≤ hi') : Mat h v mk n lo hi' := by
  rcases m with m | ⟨b, bs, ex, h1, h2, h3, h4, h5, h6, h7, h8⟩
  · exact .inl m
  · exact .inr ⟨b, bs, ex, h1, h2, h3, h4, by omega, fun c hc => ⟨(h6 c hc).1, by have := (h6 c hc).2.1; omega, (h6 c hc).2.2⟩, h7, h8⟩

theorem Mat.nx {h : H} {v : D} {mk : List (List Bool)} {n lo hi hi' : Nat} (m : Mat h v mk n lo hi) (k : Nat) (e : hi ≤ hi') : Mat ⟨k, h.blk⟩ v mk n lo hi' := (m.frame fun _ _ _ => rfl).wide e

theorem mapK_two {α β : Type} {f : D → Option (D × List Nat)} {g : α → D} {u : β → D} : ∀ (xs : List α) (bs : List β), xs.length = bs.length → (∀ (i : Nat) (a : α) (b : β), xs[i]? = some a → bs[i]? = some b → ∃ k, f (g a) = some (u b, k)) → ∃ k, mapK f (xs.map g) = some (bs.map u, k)
  | [], [], _, _ => ⟨[], rfl⟩
  | [], _ :: _, h, _ => by simp at h
  | _ :: _, [], h, _ => by simp at h
  | a :: xs, b :: bs, h, hf => by
    obtain ⟨k1, h1⟩ := hf 0 a b rfl rfl
    obtain ⟨k2, h2⟩ := mapK_two xs bs (by simpa using h) (fun i a b ha hb => hf (i + 1) a b (by simpa using ha) (by simpa using hb))
    exact ⟨k1 ++ k2, by rw [List.map_cons, mapK, h1]; simp only; rw [h2]; rfl⟩

theorem Mat.snap {h : H} {v : D} {mk : List (List Bool)} {n lo hi : Nat} (m : Mat h v mk n lo hi) (kp : Bool) (k : Nat) : ∃ (ks : List Nat) (tk : Tok), Eng.snap kp h.blk (k + 3) v = some (.frz (mk.map boolRow) tk, ks) ∧ (kp = false ∨ mk ≠ [] → tk = .unk) := by
  rcases m with ⟨rfl, rfl⟩ | ⟨b, bs, ex, rfl, h2, h3, h4, h5, h6, h7, h8⟩
  · exact ⟨[], _, rfl, fun hk => Or.elim hk (fun e => by rw [e]; rfl) (fun e => absurd rfl e)⟩
  · have hrow : ∀ (i c : Nat) (r : List Bool), bs[i]? = some c → mk[i]? = some r → ∃ q, Eng.snap false h.blk (k + 2) (rowV n c) = some (boolRow r, q) := fun i c r hc hr => by
      obtain ⟨e1, e2⟩ := h8 i c r hc hr
      refine ⟨[c], ?_⟩
      show (match (h.blk c).row with | some (e, xs) => (if e = 1 ∧ 0 + n ≤ xs.length then (match mapK (Eng.snap false h.blk (k + 1)) ((xs.drop 0).take n) with | some (ys, k) => some (D.frz ys (if false && true then .exact else .unk), c :: k) | none => none) else none) | none => none) = _
      rw [e1]
      simp only [row_live, List.length_map, List.drop_zero]
      rw [if_pos ⟨trivial, by omega⟩, List.take_of_length_le (by simp; omega), mapK_map r fun x _ => rfl]
      rfl
    obtain ⟨q, hq⟩ := mapK_two (f := Eng.snap false h.blk (k + 2)) (g := rowV n) (u := boolRow) bs mk h3 hrow
    refine ⟨b :: q, .unk, ?_, fun _ => rfl⟩
    show (match (h.blk b).row with | some (e, xs) => (if e = 1 ∧ 0 + mk.length ≤ xs.length then (match mapK (Eng.snap false h.blk (k + 2)) ((xs.drop 0).take mk.length) with | some (ys, k) => some (D.frz ys (if kp && false then .exact else .unk), b :: k) | none => none) else none) | none => none) = _
    rw [h2]
    simp only [row_live, List.length_map, List.drop_zero]
    rw [if_pos ⟨trivial, by omega⟩, List.take_of_length_le (by simp; omega), hq]
    simp only [Bool.and_false, Bool.false_eq_true, if_false]

/-- One more row, in a new block. -/
theorem Mat.push {h h' : H} {v : D} {mk : List (List Bool)} {n lo hi s c : Nat} {r : List Bool} (m : Mat h v mk n lo hi) (hh : lo ≤ hi) (hc : hi ≤ c) (hs : hi ≤ s) (hcs : c ≠ s) (hr : r.length = n) (hb : h'.blk c = .live 1 (r.map .bool))
    (hrest : ∀ b, lo ≤ b → b < hi → v ≠ .sl b 1 0 mk.length false → h'.blk b = h.blk b)
    (hsb : h'.blk s = .live 1 ((match v with | .sl b _ _ _ _ => (match h.blk b with | .live _ xs => xs | _ => []) | _ => []) ++ [rowV n c])) : Mat h' (.sl s 1 0 (mk.length + 1) false) (mk ++ [r]) n lo (max c s + 1) := by
  rcases m with ⟨rfl, rfl⟩ | ⟨b, bs, ex, rfl, h2, h3, h4, h5, h6, h7, h8⟩
  · refine .inr ⟨s, [c], (), rfl, hsb, rfl, by omega, by omega, fun x hx => ?_, by simp, fun i x y hx hy => ?_⟩
    · simp at hx; subst hx; exact ⟨by omega, by omega, hcs⟩
    · cases i with
      | zero => simp at hx hy; subst hx; subst hy; exact ⟨hb, hr⟩
      | succ i => simp at hx
  · have hcn : c ∉ bs := fun hx => by have := (h6 c hx).2.1; omega
    refine .inr ⟨s, bs ++ [c], (), by simp, ?_, by simp [h3], by omega, by omega, fun x hx => ?_, ?_, fun i x y hx hy => ?_⟩
    · rw [hsb]; simp only [h2]; simp
    · rcases List.mem_append.1 hx with hx | hx
      · have := h6 x hx; exact ⟨this.1, by omega, by omega⟩
      · simp at hx; subst hx; exact ⟨by omega, by omega, hcs⟩
    · rw [List.nodup_append]
      exact ⟨h7, by simp, fun a ha b hb e => by simp at hb; subst hb; subst e; exact hcn ha⟩
    · rcases Nat.lt_or_ge i bs.length with hi | hi
      · rw [List.getElem?_append_left hi] at hx
        rw [List.getElem?_append_left (by omega)] at hy
        have hq := h8 i x y hx hy
        have hm := h6 x (List.mem_of_getElem? hx)
        rw [hrest x hm.1 hm.2.1 (fun he => by injection he with he1; exact hm.2.2 he1.symm)]
        exact hq
      · rw [List.getElem?_append_right hi] at hx
        rw [List.getElem?_append_right (by omega), ← h3] at hy
        cases hj : i - bs.length with
        | zero => rw [hj] at hx hy; simp at hx hy; subst hx; subst hy; exact ⟨hb, hr⟩
        | succ j => rw [hj] at hx; simp at hx

/-- One cell is set. -/
theorem Mat.put {h h' : H} {b ln n lo hi i c : Nat} {bs : List Nat} {mk : List (List Bool)} {r : List Bool} (m : Mat h (.sl b 1 0 ln false) mk n lo hi) (hbs : h.blk b = .live 1 (bs.map (rowV n))) (hc : bs[i]? = some c) (hi' : i < mk.length)
    (hr : r.length = n) (hb : h'.blk c = .live 1 (r.map .bool)) (hrest : ∀ x, x ≠ c → h'.blk x = h.blk x) : Mat h' (.sl b 1 0 ln false) (mk.set i r) n lo hi := by
  rcases m with ⟨_, hv⟩ | ⟨b', bs', ex', hv, h2, h3, h4, h5, h6, h7, h8⟩
  · cases hv
  · injection hv with e1 _ _ e2 _
    subst e1; subst e2
    have : bs' = bs := by
      rw [hbs] at h2
      injection h2 with _ h2
      have inj : ∀ (x y : List Nat), x.map (rowV n) = y.map (rowV n) → x = y := by
        intro x
        induction x with
        | nil => intro y hy; cases y with
          | nil => rfl
          | cons _ _ => simp at hy
        | cons a x ih => intro y hy; cases y with
          | nil => simp at hy
          | cons d y =>
            rw [List.map_cons, List.map_cons] at hy
            injection hy with hy1 hy2
            injection hy1 with hy1
            rw [hy1, ih y hy2]
      exact (inj _ _ h2).symm
    subst this
    have hcb : c ≠ b := (h6 c (List.mem_of_getElem? hc)).2.2
    refine .inr ⟨b, bs', (), by simp, by rw [hrest b (fun e => hcb e.symm)]; exact h2, by simp [h3], h4, h5, h6, h7, fun j x y hx hy => ?_⟩
    by_cases hj : j = i
    · subst hj
      rw [List.getElem?_set_self hi'] at hy
      rw [hc] at hx
      cases hx; cases hy
      exact ⟨hb, hr⟩
    · rw [List.getElem?_set_ne (fun e => hj e.symm)] at hy
      have hne : x ≠ c := fun e => by
        subst e
        have i1 : j < bs'.length := (List.getElem?_eq_some_iff.1 hx).1
        have := (List.getElem?_inj i1 h7).1 (hx.trans hc.symm)
        exact hj this
      rw [hrest x hne]
      exact h8 j x y hx hy
end Go.Eng.E3

namespace Go.Eng.E3
open Go Go.Eng Go.Proofs
set_option maxRecDepth 100000
attribute [local simp] execR runOps stepOp wantedD evalOp opd upd St.put Eff.apply upds looseOk FP.free FP.idle apart Eff.fp ofVal loadD storeD partD setPart indexAddrD isShift arith unD callOp mapO D.okc pickD buildable buildD placeD convD
set_option linter.unusedSimpArgs false
set_option maxHeartbeats 2000000

def zeroM (n : Nat) : List (List Bool) := List.replicate n (List.replicate n false)
def cellM (m : M) (mk : List (List Bool)) (s t : Nat) : Bool := mget mk s t || apartN m mk s t m.ins 0
def stepM (m : M) (mk : List (List Bool)) : List (List Bool) := (List.range m.rows.length).map fun s => (List.range m.rows.length).map fun t => cellM m mk s t
def markN (m : M) : Nat → List (List Bool)
  | 0 => zeroM m.rows.length
  | k + 1 => stepM m (markN m k)

theorem sq_step (m : M) (mk : List (List Bool)) : Sq m.rows.length (stepM m mk) := ⟨by simp [stepM], fun x hx => by simp [stepM] at hx; obtain ⟨_, _, rfl⟩ := hx; simp⟩
theorem sq_mark (m : M) : ∀ k, Sq m.rows.length (markN m k)
  | 0 => ⟨by simp [markN, zeroM], fun x hx => by simp [markN, zeroM] at hx; rw [hx.2]; simp⟩
  | k + 1 => sq_step m _

theorem call100 {m : M} {mk : List (List Bool)} {s t : Nat} (hv : Valid m) (hk : Sq m.rows.length mk) (hs : s < m.rows.length) (ht : t < m.rows.length) {h : H} {v : D} {n lo hi : Nat} (hm : Mat h v mk n lo hi) :
    ∃ ks, ∀ nx, callI E (.fn 100 []) [.agg [.int .i64 m.ins, .int .i64 m.outs, .frz (m.rows.map rowD) .unk], v, .int .i64 s, .int .i64 t] ⟨nx, h.blk⟩ = some (.int .i64 (if apartN m mk s t m.ins 0 then 1 else 0), ⟨nx, h.blk⟩, { rd := ks }) := by
  obtain ⟨ks, tk, h1, h2⟩ := hm.snap (E.pol.args 100) 6
  have ht0 : tk = .unk := h2 (.inl (by decide))
  subst ht0
  refine ⟨ks, fun nx => ?_⟩
  have := call_cap (g := 100) (args := [encM m, v, .int .i64 s, .int .i64 t]) (cap := []) (h := ⟨nx, h.blk⟩) (xs := [encM m, markD mk, .int .i64 s, .int .i64 t]) (ks := ks) (r := .int .i64 (if apartN m mk s t m.ins 0 then 1 else 0)) (by decide) (by
    simp only [List.append_nil, mapK]
    rw [show snap (E.pol.args 100) h.blk snapDepth (encM m) = some (encM m, []) from snap_encM _ _ 4 m, show snap (E.pol.args 100) h.blk snapDepth v = some (markD mk, ks) from h1]
    simp [snap, snapDepth]) (spec100 hv hk hs ht) (fun _ => rfl)
  rw [show (encM m) = .agg [.int .i64 m.ins, .int .i64 m.outs, .frz (m.rows.map rowD) .unk] from rfl] at this
  rw [this]
  cases ks <;> rfl

theorem mu74a : E.pol.mu 74 123 = true := by decide
theorem mu74b : E.pol.mu 74 127 = true := by decide


theorem push6 {A : Nat → D} {h : H} {n lo : Nat} {mk : List (List Bool)} (h5 : A 5 = .int .i64 n) (hm : Mat h (A 6) mk n lo h.next) (hl : mk.length ≤ 64) (hn : n ≤ 64) (hlo : lo ≤ h.next) :
    ∃ A' h', execR E (callI E) 74 o74_6 [] ⟨A, h⟩ = some ⟨A', h'⟩ ∧ (∀ t, t ≠ 20 → t ≠ 21 → t ≠ 22 → t ≠ 23 → t ≠ 24 → t ≠ 6 → A' t = A t) ∧ h'.next = h.next + 6 ∧ (∀ x, x < lo → h'.blk x = h.blk x) ∧ Mat h' (A' 6) (mk ++ [List.replicate n false]) n lo h'.next ∧ A' 6 = .sl (h.next + 4) 1 0 (mk.length + 1) false := by
  have hmk : (n : Int) ≤ 140737488355328 := by omega
  have hap : (mk.length + 1) * 24 * 2 ≤ 140737488355328 := by omega
  have hm' := hm
  rcases hm with ⟨rfl, hv0⟩ | ⟨b, bs, ex, hv6, g2, g3, g4, g5, g6, g7, g8⟩
  · refine ⟨_, _, by simp [builtinD, lenD, pD, argA, o74_6, hv0, h5, elemsD, appendD, hmk, snapDepth, mapK, mu74a, mu74b, maxAppend]; exact ⟨rfl, rfl⟩, ?_, ?_, ?_, ?_, ?_⟩
    · intro t q1 q2 q3 q4 q5 q6; simp [upd, q1, q2, q3, q4, q5, q6]
    · rfl
    · intro x hx; have e : ∀ j, ¬ x = h.next + j := by omega
      simp [upds, upd, e]
    · rw [hv0] at hm'
      refine (hm'.push (c := h.next + 2) (s := h.next + 4) (r := List.replicate n false) hlo (by omega) (by omega) (by omega) (by simp) ?_ ?_ ?_).wide ?_
      · simp [upds, upd]
      · intro x _ hx _; have e : ∀ j, ¬ x = h.next + j := by omega
        simp [upds, upd, e]
      · simp [upds, upd, rowV]
      · simp <;> omega
    · simp [upd]
  · have hb4 : ¬ b = h.next + 3 := by omega
    have hb5 : ∀ j, ¬ b = h.next + j := by omega
    have htk : List.take mk.length (List.map (rowV n) bs) = List.map (rowV n) bs := List.take_of_length_le (by simp; omega)
    refine ⟨_, _, by simp [builtinD, lenD, pD, argA, o74_6, hv6, h5, g2, g3, elemsD, appendD, hmk, hap, hb4, hb5, htk, snapDepth, mapK, mu74a, mu74b, maxAppend, rowV]; exact ⟨rfl, rfl⟩, ?_, ?_, ?_, ?_, ?_⟩
    · intro t q1 q2 q3 q4 q5 q6; simp [upd, q1, q2, q3, q4, q5, q6]
    · rfl
    · intro x hx; have e : ∀ j, ¬ x = h.next + j := by omega
      have e2 : ¬ x = b := by omega
      simp [upds, upd, e, e2]
    · rw [hv6] at hm'
      refine (hm'.push (c := h.next + 2) (s := h.next + 4) (r := List.replicate n false) hlo (by omega) (by omega) (by omega) (by simp) ?_ ?_ ?_).wide ?_
      · simp [upds, upd]; omega
      · intro x _ hx hne
        have : x ≠ b := fun e => hne (by rw [e])
        have e : ∀ j, ¬ x = h.next + j := by omega
        simp [upds, upd, this, e]
      · simp [upds, upd, g2, htk]; rfl
      · simp <;> omega
    · simp [upd]

theorem push14 {A : Nat → D} {h : H} {n lo : Nat} {mk : List (List Bool)} (h5 : A 5 = .int .i64 n) (hm : Mat h (A 9) mk n lo h.next) (hl : mk.length ≤ 64) (hn : n ≤ 64) (hlo : lo ≤ h.next) :
    ∃ A' h', execR E (callI E) 74 o74_14 [] ⟨A, h⟩ = some ⟨A', h'⟩ ∧ (∀ t, t ≠ 35 → t ≠ 36 → t ≠ 37 → t ≠ 38 → t ≠ 39 → t ≠ 9 → A' t = A t) ∧ h'.next = h.next + 6 ∧ (∀ x, x < lo → h'.blk x = h.blk x) ∧ Mat h' (A' 9) (mk ++ [List.replicate n false]) n lo h'.next ∧ A' 9 = .sl (h.next + 4) 1 0 (mk.length + 1) false := by
  have hmk : (n : Int) ≤ 140737488355328 := by omega
  have hap : (mk.length + 1) * 24 * 2 ≤ 140737488355328 := by omega
  have hm' := hm
  rcases hm with ⟨rfl, hv0⟩ | ⟨b, bs, ex, hv6, g2, g3, g4, g5, g6, g7, g8⟩
  · refine ⟨_, _, by simp [builtinD, lenD, pD, argA, o74_14, hv0, h5, elemsD, appendD, hmk, snapDepth, mapK, mu74a, mu74b, maxAppend]; exact ⟨rfl, rfl⟩, ?_, ?_, ?_, ?_, ?_⟩
    · intro t q1 q2 q3 q4 q5 q6; simp [upd, q1, q2, q3, q4, q5, q6]
    · rfl
    · intro x hx; have e : ∀ j, ¬ x = h.next + j := by omega
      simp [upds, upd, e]
    · rw [hv0] at hm'
      refine (hm'.push (c := h.next + 2) (s := h.next + 4) (r := List.replicate n false) hlo (by omega) (by omega) (by omega) (by simp) ?_ ?_ ?_).wide ?_
      · simp [upds, upd]
      · intro x _ hx _; have e : ∀ j, ¬ x = h.next + j := by omega
        simp [upds, upd, e]
      · simp [upds, upd, rowV]
      · simp <;> omega
    · simp [upd]
  · have hb4 : ¬ b = h.next + 3 := by omega
    have hb5 : ∀ j, ¬ b = h.next + j := by omega
    have htk : List.take mk.length (List.map (rowV n) bs) = List.map (rowV n) bs := List.take_of_length_le (by simp; omega)
    refine ⟨_, _, by simp [builtinD, lenD, pD, argA, o74_14, hv6, h5, g2, g3, elemsD, appendD, hmk, hap, hb4, hb5, htk, snapDepth, mapK, mu74a, mu74b, maxAppend, rowV]; exact ⟨rfl, rfl⟩, ?_, ?_, ?_, ?_, ?_⟩
    · intro t q1 q2 q3 q4 q5 q6; simp [upd, q1, q2, q3, q4, q5, q6]
    · rfl
    · intro x hx; have e : ∀ j, ¬ x = h.next + j := by omega
      have e2 : ¬ x = b := by omega
      simp [upds, upd, e, e2]
    · rw [hv6] at hm'
      refine (hm'.push (c := h.next + 2) (s := h.next + 4) (r := List.replicate n false) hlo (by omega) (by omega) (by omega) (by simp) ?_ ?_ ?_).wide ?_
      · simp [upds, upd]; omega
      · intro x _ hx hne
        have : x ≠ b := fun e => hne (by rw [e])
        have e : ∀ j, ¬ x = h.next + j := by omega
        simp [upds, upd, this, e]
      · simp [upds, upd, g2, htk]; rfl
      · simp <;> omega
    · simp [upd]
end Go.Eng.E3

namespace Go.Eng.E3
open Go Go.Eng Go.Proofs
set_option maxRecDepth 100000
attribute [local simp] execR runOps stepOp wantedD evalOp opd upd St.put Eff.apply upds looseOk FP.free FP.idle apart Eff.fp ofVal loadD storeD partD setPart indexAddrD isShift arith unD callOp mapO D.okc pickD buildable buildD placeD convD
set_option linter.unusedSimpArgs false
set_option maxHeartbeats 2000000

structure IA (m : M) (K : Nat) (k : Nat) (s : St) : Prop where
  le : k ≤ m.rows.length
  h1 : s.A 1 = .int .i64 K
  h2 : s.A 2 = .ptr 0 0 0
  h5 : s.A 5 = .int .i64 m.rows.length
  h7 : s.A 7 = .int .i64 ((m.rows.length - k : Nat) : Int)
  hb : s.h.blk 0 = .live 3 [encM m]
  hn : 1 ≤ s.h.next
  hm : Mat s.h (s.A 6) (List.replicate (m.rows.length - k) (List.replicate m.rows.length false)) m.rows.length 1 s.h.next

theorem loopA {m : M} (hv : Valid m) {K : Nat} {Q : Po} (hQ : ∀ s, IA m K 0 s → Q.x 0 s) (k : Nat) (s : St) (hI : IA m K k s) : V E 74 68 (.loop l74_0) s Q := by
  have r2 := hv.r2
  refine V.count (IA m K) ?_ ?_ k s hI
  · rintro k ⟨A, h⟩ ⟨le, h1, h2, h5, h7, hb, hn, hm⟩
    have hlt : m.rows.length - (k + 1) < m.rows.length := by omega
    generalize hi : m.rows.length - (k + 1) = i at *
    have hk' : m.rows.length - k = i + 1 := by omega
    have hw : IntKind.i64.wrap ((i : Int) + 1) = ((i + 1 : Nat) : Int) := by rw [wrap_id] <;> omega
    simp only at h1 h2 h5 h7 hb hn hm
    rw [cl74_0]
    refine .assoc (.then xr74_4 (by simp [o74_4, builtinD, lenD, pD, argA, h5, h7]; rfl) ?_)
    refine .head (by simp [opd, upd]; rfl) (fun _ => ?_) (fun hf => by simp [hlt] at hf)
    obtain ⟨A', h', e0, e1, e2, e3, e4, _⟩ := push6 (A := upd (upd (upd A 15 (.int .i64 i)) 16 (.int .i64 m.rows.length)) 17 (.bool (decide (i < m.rows.length)))) (h := ⟨h.next + 3, upds h.blk []⟩) (n := m.rows.length) (lo := 1) (mk := List.replicate i (List.replicate m.rows.length false))
      (by simp [upd, h5]) (by simpa [upd, upds] using hm.nx (h.next + 3) (by omega)) (by simp; omega) r2 (by simp)
    have ef : ∀ t, t < 12 → t ≠ 6 → A' t = A t := fun t ht h6 => by rw [e1 t (by omega) (by omega) (by omega) (by omega) (by omega) h6]; simp [upd, show ∀ c, 15 ≤ c → ¬ t = c from fun c h => by omega]
    refine .seq (.block (.reg xr74_6 (by simpa [upds] using e0) ?_))
    refine .reg xr74_5 (by simp [o74_5, builtinD, lenD, pD, argA, ef, h7]; rfl) ⟨by omega, ?_, ?_, ?_, ?_, ?_, ?_, ?_⟩
    · simp [upd, ef, h1]
    · simp [upd, ef, h2]
    · simp [upd, ef, h5]
    · simp [upd, hk', hw]
    · simp [upds, e3 0 (by omega), hb]
    · simp <;> omega
    · simp only [hk']
      rw [List.replicate_succ']
      simpa [upd, upds] using e4.nx (h'.next + 3) (hi' := h'.next + 3) (by omega)
  · rintro ⟨A, h⟩ hI
    have hI' := hI
    obtain ⟨le, h1, h2, h5, h7, hb, hn, hm⟩ := hI
    simp only at h1 h2 h5 h7 hb hn hm
    rw [cl74_0]
    refine .assoc (.then xr74_4 (by simp [o74_4, builtinD, lenD, pD, argA, h5, h7]; rfl) ?_)
    refine .head (by simp [opd, upd]; rfl) (fun hf => by simp at hf) (fun _ => hQ _ ⟨by omega, ?_, ?_, ?_, ?_, ?_, ?_, ?_⟩)
    · simp [upd, h1]
    · simp [upd, h2]
    · simp [upd, h5]
    · simp [upd, h7]
    · simp [upds, hb]
    · simp <;> omega
    · simpa [upd, upds] using hm.nx (h.next + 3) (hi' := h.next + 3) (by omega)
end Go.Eng.E3

namespace Go.Eng.E3
open Go Go.Eng Go.Proofs
set_option maxRecDepth 100000
attribute [local simp] execR runOps stepOp wantedD evalOp opd upd St.put Eff.apply upds looseOk FP.free FP.idle apart Eff.fp ofVal loadD storeD partD setPart indexAddrD isShift arith unD callOp mapO D.okc pickD buildable buildD placeD convD
set_option linter.unusedSimpArgs false
set_option maxHeartbeats 4000000

theorem cell18 {m : M} (hv : Valid m) {mk nk : List (List Bool)} {row : List Bool} {A : Nat → D} {h : H} {S T N0 : Nat} (hsq : Sq m.rows.length mk) (hS : S < m.rows.length) (hT : T < m.rows.length)
    (h2 : A 2 = .ptr 0 0 0) (h10 : A 10 = .int .i64 S) (h11 : A 11 = .int .i64 T) (hb : h.blk 0 = .live 3 [encM m]) (_hN : N0 ≤ h.next) (_hN1 : 1 ≤ N0)
    (hm : Mat h (A 6) mk m.rows.length 1 N0) (hn : Mat h (A 9) nk m.rows.length N0 h.next) (hrow : nk[S]? = some row) :
    ∃ A' h', execR E (callI E) 74 o74_18 [(3, 8), (3, 11), (3, 13), (3, 17)] ⟨A, h⟩ = some ⟨A', h'⟩ ∧ (∀ t, t < 45 → A' t = A t) ∧ h'.next = h.next + 22 ∧ (∀ x, x < N0 → h'.blk x = h.blk x) ∧ Mat h' (A 9) (nk.set S (row.set T (cellM m mk S T))) m.rows.length N0 h'.next := by
  have hm0 := hm
  have hn0 := hn
  obtain ⟨ks, hcall⟩ := call100 hv hsq hS hT hm0
  rcases hm with ⟨rfl, _⟩ | ⟨b, bs, ex, v6, g2, g3, g4, g5, g6, g7, g8⟩
  · have := hsq.l; have := hv.r1; simp at *; omega
  rcases hn with ⟨rfl, _⟩ | ⟨b', bs', ex', v9, k2, k3, k4, k5, k6, k7, k8⟩
  · simp at hrow
  have hSm : S < mk.length := by rw [hsq.l]; exact hS
  have hSb : S < bs.length := by omega
  have hSn : S < nk.length := (List.getElem?_eq_some_iff.1 hrow).1
  have hSb' : S < bs'.length := by omega
  have q1 := g8 S bs[S] mk[S] (List.getElem?_eq_getElem hSb) (List.getElem?_eq_getElem hSm)
  have q2 := k8 S bs'[S] row (List.getElem?_eq_getElem hSb') hrow
  have hTm : T < mk[S].length := by rw [q1.2]; exact hT
  have hTr : T < row.length := by rw [q2.2]; exact hT
  have hmg : mget mk S T = mk[S][T] := by simp [mget, hSm, hTm]
  have w1 := g6 bs[S] (List.getElem_mem hSb)
  have w2 := k6 bs'[S] (List.getElem_mem hSb')
  have hcb : ∀ x, x < N0 → ¬ x = bs'[S] := fun x hx => by omega
  rw [v6] at hcall
  cases hv0 : mk[S][T] with
  | true =>
    have hcell : cellM m mk S T = true := by simp [cellM, hmg, hv0]
    refine ⟨_, _, by simp [builtinD, lenD, pD, argA, o74_18, v6, v9, h2, h10, h11, g2, k2, g3, k3, hSm, hSn, hSb, hSb', hT, hTm, hTr, hS, q1.1, q2.1, hv0, rowV, hb, encM]; exact ⟨rfl, rfl⟩, ?_, ?_, ?_, ?_⟩
    · intro t ht
      simp [upd, show ∀ c, 45 ≤ c → ¬ t = c from fun c h => by omega]
    · rfl
    · intro x hx; simp [upd, upds, hcb x hx]
    · rw [v9] at hn0 ⊢
      refine (hn0.put (c := bs'[S]) (h' := ⟨h.next + 22, _⟩) k2 (List.getElem?_eq_getElem hSb') hSn (by simp [q2.2]) ?_ ?_).wide (by simp)
      · simp [upd, upds, hcell, List.map_set]
      · intro x hx; simp [upd, upds, hx]
  | false =>
    have hcell : cellM m mk S T = apartN m mk S T m.ins 0 := by simp [cellM, hmg, hv0]
    have hab : ∀ c : Bool, (((if c = true then 1 else 0 : Int) == 1) : Bool) = c := fun c => by cases c <;> rfl
    have hab2 : ∀ c : Bool, decide ((if c = true then 1 else 0 : Int) = 1) = c := fun c => by cases c <;> rfl
    refine ⟨_, _, by simp [builtinD, lenD, pD, argA, o74_18, v6, v9, h2, h10, h11, g2, k2, g3, k3, hSm, hSn, hSb, hSb', hT, hTm, hTr, hS, q1.1, q2.1, hv0, rowV, hb, encM, hcall, hab, hab2]; exact ⟨rfl, rfl⟩, ?_, ?_, ?_, ?_⟩
    · intro t ht
      simp [upd, show ∀ c, 45 ≤ c → ¬ t = c from fun c h => by omega]
    · rfl
    · intro x hx; simp [upd, upds, hcb x hx]
    · rw [v9] at hn0 ⊢
      refine (hn0.put (c := bs'[S]) (h' := ⟨h.next + 22, _⟩) k2 (List.getElem?_eq_getElem hSb') hSn (by simp [q2.2]) ?_ ?_).wide (by simp)
      · simp [upd, upds, hcell, List.map_set]
      · intro x hx; simp [upd, upds, hx]
end Go.Eng.E3

namespace Go.Eng.E3
open Go Go.Eng Go.Proofs
set_option maxRecDepth 100000
attribute [local simp] execR runOps stepOp wantedD evalOp opd upd St.put Eff.apply upds looseOk FP.free FP.idle apart Eff.fp ofVal loadD storeD partD setPart indexAddrD isShift arith unD callOp mapO D.okc pickD buildable buildD placeD convD
set_option linter.unusedSimpArgs false
set_option maxHeartbeats 2000000

def rowM (m : M) (mk : List (List Bool)) (s : Nat) : List Bool := (List.range m.rows.length).map fun t => cellM m mk s t
def partM (m : M) (mk : List (List Bool)) (s t : Nat) : List Bool := (List.range t).map (fun t => cellM m mk s t) ++ List.replicate (m.rows.length - t) false

theorem partM_set {m : M} {mk : List (List Bool)} {s t : Nat} (ht : t < m.rows.length) : (partM m mk s t).set t (cellM m mk s t) = partM m mk s (t + 1) := by
  unfold partM
  rw [List.set_append_right _ _ (by simp), List.range_succ, List.map_append]
  simp only [List.length_map, List.length_range, Nat.sub_self]
  obtain ⟨q, hq⟩ : ∃ q, m.rows.length - t = q + 1 := ⟨m.rows.length - t - 1, by omega⟩
  rw [hq, List.replicate_succ, List.set_cons_zero, show m.rows.length - (t + 1) = q by omega]
  simp
theorem partM_all {m : M} {mk : List (List Bool)} {s : Nat} : partM m mk s m.rows.length = rowM m mk s := by simp [partM, rowM]
theorem partM_zero {m : M} {mk : List (List Bool)} {s : Nat} : partM m mk s 0 = List.replicate m.rows.length false := by simp [partM]

def rowsM (m : M) (mk : List (List Bool)) (s : Nat) : List (List Bool) := (List.range s).map fun s => rowM m mk s
theorem rowsM_len {m : M} {mk : List (List Bool)} {s : Nat} : (rowsM m mk s).length = s := by simp [rowsM]
theorem rowsM_succ {m : M} {mk : List (List Bool)} {s : Nat} : rowsM m mk (s + 1) = rowsM m mk s ++ [rowM m mk s] := by simp [rowsM, List.range_succ]
theorem rowsM_all {m : M} {mk : List (List Bool)} : rowsM m mk m.rows.length = stepM m mk := rfl

/-- What stays in a round: its number R of K. -/
structure Fix (m : M) (K R : Nat) (mk : List (List Bool)) (N0 : Nat) (s : St) : Prop where
  h1 : s.A 1 = .int .i64 K
  h2 : s.A 2 = .ptr 0 0 0
  h5 : s.A 5 = .int .i64 m.rows.length
  h8 : s.A 8 = .int .i64 R
  hb : s.h.blk 0 = .live 3 [encM m]
  hN : N0 ≤ s.h.next
  hm : Mat s.h (s.A 6) mk m.rows.length 1 N0

theorem Fix.step {m : M} {K R N0 : Nat} {mk : List (List Bool)} {s s' : St} (f : Fix m K R mk N0 s) (h1 : 1 ≤ N0) (e : ∀ t, t < 9 → s'.A t = s.A t) (en : s.h.next ≤ s'.h.next) (eb : ∀ x, x < N0 → s'.h.blk x = s.h.blk x) : Fix m K R mk N0 s' := by
  obtain ⟨q1, q2, q3, q4, q5, q6, q7⟩ := f
  exact ⟨by rw [e 1 (by omega)]; exact q1, by rw [e 2 (by omega)]; exact q2, by rw [e 5 (by omega)]; exact q3, by rw [e 8 (by omega)]; exact q4, by rw [eb 0 (by omega)]; exact q5, by omega,
    by rw [e 6 (by omega)]; exact q7.frame fun b _ hb => eb b hb⟩

structure IC (m : M) (K R : Nat) (mk : List (List Bool)) (N0 S : Nat) (k : Nat) (s : St) : Prop where
  le : k ≤ m.rows.length
  fx : Fix m K R mk N0 s
  h10 : s.A 10 = .int .i64 S
  h11 : s.A 11 = .int .i64 ((m.rows.length - k : Nat) : Int)
  hn : Mat s.h (s.A 9) (rowsM m mk S ++ [partM m mk S (m.rows.length - k)]) m.rows.length N0 s.h.next

theorem loopC {m : M} (hv : Valid m) {K R N0 S : Nat} {mk : List (List Bool)} (hsq : Sq m.rows.length mk) (hN : 1 ≤ N0) (hS : S < m.rows.length) {Q : Po} (hQ : ∀ s, IC m K R mk N0 S 0 s → Q.x 6 s) (k : Nat) (s : St) (hI : IC m K R mk N0 S k s) : V E 74 68 (.loop l74_3) s Q := by
  have r2 := hv.r2
  refine V.count (IC m K R mk N0 S) ?_ ?_ k s hI
  · rintro k ⟨A, h⟩ ⟨le, fx, h10, h11, hn⟩
    have hlt : m.rows.length - (k + 1) < m.rows.length := by omega
    generalize hi : m.rows.length - (k + 1) = i at *
    have hk' : m.rows.length - k = i + 1 := by omega
    have hw : IntKind.i64.wrap ((i : Int) + 1) = ((i + 1 : Nat) : Int) := by rw [wrap_id] <;> omega
    have h5 := fx.h5
    simp only at h5 h10 h11 hn
    rw [cl74_3]
    refine .assoc (.then xr74_16 (by simp [o74_16, builtinD, lenD, pD, argA, h5, h11]; rfl) ?_)
    refine .head (by simp [opd, upd]; rfl) (fun _ => ?_) (fun hf => by simp [hlt] at hf)
    have hf3 : ∀ A1 : Nat → D, A1 = upd (upd (upd A 40 (.int .i64 i)) 41 (.int .i64 m.rows.length)) 42 (.bool (decide (i < m.rows.length))) → ∀ t, t < 40 → A1 t = A t := fun A1 e t ht => by
      rw [e]; simp [upd, show ∀ c, 40 ≤ c → ¬ t = c from fun c h => by omega]
    generalize hA1 : upd (upd (upd A 40 (.int .i64 i)) 41 (.int .i64 m.rows.length)) 42 (.bool (decide (i < m.rows.length))) = A1
    have ef := hf3 A1 hA1.symm
    have fx1 : Fix m K R mk N0 ⟨A1, ⟨h.next + 3, h.blk⟩⟩ := fx.step hN (fun t ht => ef t (by omega)) (by simp) (fun _ _ => rfl)
    obtain ⟨A', h', e0, e1, e2, e3, e4⟩ := cell18 hv (A := A1) (h := ⟨h.next + 3, h.blk⟩) (nk := rowsM m mk S ++ [partM m mk S i]) (row := partM m mk S i) hsq hS hlt (by exact fx1.h2) (by rw [ef 10 (by omega)]; exact h10) (by rw [ef 11 (by omega)]; exact h11) (by exact fx1.hb) (by exact fx1.hN) hN (by exact fx1.hm)
      (by rw [ef 9 (by omega)]; exact hn.nx (h.next + 3) (by simp)) (by rw [List.getElem?_append_right (by rw [rowsM_len]; exact Nat.le_refl _), rowsM_len]; simp)
    refine .seq (.block (.reg xr74_18 (by simpa [upds] using e0) ?_))
    have fx2 : Fix m K R mk N0 ⟨A', h'⟩ := fx1.step hN (fun t ht => e1 t (by omega)) (by simp only [e2]; omega) e3
    have h11' : A' 11 = .int .i64 i := by rw [e1 11 (by omega), ef 11 (by omega)]; exact h11
    refine .reg xr74_17 (by simp [o74_17, builtinD, lenD, pD, argA, h11']; rfl) ⟨by omega, ?_, ?_, ?_, ?_⟩
    · exact fx2.step hN (fun t ht => by simp [upd, show t ≠ 43 by omega, show t ≠ 44 by omega, show t ≠ 11 by omega]) (by simp) (fun _ _ => rfl)
    · simp [upd, e1, ef, h10]
    · simp [upd, hk', hw]
    · rw [hk', ← partM_set hlt]
      have : (rowsM m mk S ++ [partM m mk S i]).set S ((partM m mk S i).set i (cellM m mk S i)) = rowsM m mk S ++ [(partM m mk S i).set i (cellM m mk S i)] := by
        rw [List.set_append_right _ _ (by rw [rowsM_len]; exact Nat.le_refl _), rowsM_len]; simp
      rw [this] at e4
      have e9 : A' 9 = A1 9 := e1 9 (by omega)
      rw [← e9] at e4
      simpa [upd, upds] using e4.nx (h'.next + 3) (hi' := h'.next + 3) (by omega)
  · rintro ⟨A, h⟩ hI
    obtain ⟨le, fx, h10, h11, hn⟩ := hI
    have h5 := fx.h5
    simp only at h5 h10 h11 hn
    rw [cl74_3]
    refine .assoc (.then xr74_16 (by simp [o74_16, builtinD, lenD, pD, argA, h5, h11]; rfl) ?_)
    refine .head (by simp [opd, upd]; rfl) (fun hf => by simp at hf) (fun _ => hQ _ ⟨by omega, ?_, ?_, ?_, ?_⟩)
    · exact fx.step hN (fun t ht => by simp [upd, show ∀ c, 40 ≤ c → ¬ t = c from fun c h => by omega]) (by simp) (fun _ _ => rfl)
    · simp [upd, h10]
    · simp [upd, h11]
    · simpa [upd, upds] using hn.nx (h.next + 3) (hi' := h.next + 3) (by omega)

structure ID (m : M) (K R : Nat) (mk : List (List Bool)) (N0 : Nat) (k : Nat) (s : St) : Prop where
  le : k ≤ m.rows.length
  fx : Fix m K R mk N0 s
  h10 : s.A 10 = .int .i64 ((m.rows.length - k : Nat) : Int)
  hn : Mat s.h (s.A 9) (rowsM m mk (m.rows.length - k)) m.rows.length N0 s.h.next

theorem loopD {m : M} (hv : Valid m) {K R N0 : Nat} {mk : List (List Bool)} (hsq : Sq m.rows.length mk) (hN : 1 ≤ N0) {Q : Po} (hQ : ∀ s, ID m K R mk N0 0 s → Q.x 4 s) (k : Nat) (s : St) (hI : ID m K R mk N0 k s) : V E 74 68 (.loop l74_2) s Q := by
  have r2 := hv.r2
  refine V.count (ID m K R mk N0) ?_ ?_ k s hI
  · rintro k ⟨A, h⟩ ⟨le, fx, h10, hn⟩
    have hlt : m.rows.length - (k + 1) < m.rows.length := by omega
    generalize hi : m.rows.length - (k + 1) = i at *
    have hk' : m.rows.length - k = i + 1 := by omega
    have hw : IntKind.i64.wrap ((i : Int) + 1) = ((i + 1 : Nat) : Int) := by rw [wrap_id] <;> omega
    have h5 := fx.h5
    simp only at h5 h10 hn
    rw [cl74_2]
    refine .assoc (.then xr74_12 (by simp [o74_12, builtinD, lenD, pD, argA, h5, h10]; rfl) ?_)
    refine .head (by simp [opd, upd]; rfl) (fun _ => ?_) (fun hf => by simp [hlt] at hf)
    have hf3 : ∀ A1 : Nat → D, A1 = upd (upd (upd A 30 (.int .i64 i)) 31 (.int .i64 m.rows.length)) 32 (.bool (decide (i < m.rows.length))) → ∀ t, t < 30 → A1 t = A t := fun A1 e t ht => by
      rw [e]; simp [upd, show ∀ c, 30 ≤ c → ¬ t = c from fun c h => by omega]
    generalize hA1 : upd (upd (upd A 30 (.int .i64 i)) 31 (.int .i64 m.rows.length)) 32 (.bool (decide (i < m.rows.length))) = A1
    have ef := hf3 A1 hA1.symm
    have fx1 : Fix m K R mk N0 ⟨A1, ⟨h.next + 3, h.blk⟩⟩ := fx.step hN (fun t ht => ef t (by omega)) (by simp) (fun _ _ => rfl)
    obtain ⟨A', h', e0, e1, e2, e3, e4, _⟩ := push14 (A := A1) (h := ⟨h.next + 3, h.blk⟩) (n := m.rows.length) (lo := N0) (mk := rowsM m mk i) (by exact fx1.h5) (by rw [ef 9 (by omega)]; exact hn.nx (h.next + 3) (by simp)) (by rw [rowsM_len]; omega) r2 (by exact fx1.hN)
    have ef' : ∀ t, t < 30 → t ≠ 9 → A' t = A t := fun t ht h9 => by rw [e1 t (by omega) (by omega) (by omega) (by omega) (by omega) h9, ef t ht]
    have fx2 : Fix m K R mk N0 ⟨A', h'⟩ := fx.step hN (fun t ht => ef' t (by omega) (by omega)) (by simp only [e2]; omega) e3
    refine .seq (.block (.then xr74_14 (by simpa [upds] using e0) ?_))
    refine .then xr74_15 (by simp [o74_15, builtinD, lenD, pD, argA]; rfl) ?_
    refine .block (loopC (K := K) (R := R) (N0 := N0) hv hsq hN hlt ?_ m.rows.length _ ⟨Nat.le_refl _, ?_, ?_, ?_, ?_⟩)
    · rintro ⟨A2, h2⟩ ⟨_, fx3, g10, g11, gn⟩
      simp only at g10 g11 gn
      show V E 74 68 r74_13 _ _
      refine .reg xr74_13 (by simp [o74_13, builtinD, lenD, pD, argA, g10]; rfl) ⟨by omega, ?_, ?_, ?_⟩
      · exact fx3.step hN (fun t ht => by simp [upd, show t ≠ 33 by omega, show t ≠ 34 by omega, show t ≠ 10 by omega]) (by simp) (fun _ _ => rfl)
      · simp [upd, hk', hw]
      · rw [hk', rowsM_succ, ← partM_all]
        simpa [upd, upds] using gn.nx (h2.next + 3) (hi' := h2.next + 3) (by omega)
    · exact fx2.step hN (fun t ht => by simp [upd, show t ≠ 11 by omega]) (by simp) (fun _ _ => rfl)
    · simp [upd, ef', h10]
    · simp [upd]
    · simp only [Nat.sub_self, partM_zero]
      simpa [upd, upds] using e4.nx (h'.next + 1) (hi' := h'.next + 1) (by omega)
  · rintro ⟨A, h⟩ hI
    obtain ⟨le, fx, h10, hn⟩ := hI
    have h5 := fx.h5
    simp only at h5 h10 hn
    rw [cl74_2]
    refine .assoc (.then xr74_12 (by simp [o74_12, builtinD, lenD, pD, argA, h5, h10]; rfl) ?_)
    refine .head (by simp [opd, upd]; rfl) (fun hf => by simp at hf) (fun _ => hQ _ ⟨by omega, ?_, ?_, ?_⟩)
    · exact fx.step hN (fun t ht => by simp [upd, show ∀ c, 30 ≤ c → ¬ t = c from fun c h => by omega]) (by simp) (fun _ _ => rfl)
    · simp [upd, h10]
    · simpa [upd, upds] using hn.nx (h.next + 3) (hi' := h.next + 3) (by omega)

structure IB (m : M) (K : Nat) (k : Nat) (s : St) : Prop where
  le : k ≤ K
  h1 : s.A 1 = .int .i64 K
  h2 : s.A 2 = .ptr 0 0 0
  h5 : s.A 5 = .int .i64 m.rows.length
  h8 : s.A 8 = .int .i64 ((K - k : Nat) : Int)
  hb : s.h.blk 0 = .live 3 [encM m]
  hn : 1 ≤ s.h.next
  hm : Mat s.h (s.A 6) (markN m (K - k)) m.rows.length 1 s.h.next

theorem loopB {m : M} (hv : Valid m) {K : Nat} (hK : K < 2 ^ 62) {Q : Po} (hQ : ∀ s, IB m K 0 s → Q.x 2 s) (k : Nat) (s : St) (hI : IB m K k s) : V E 74 68 (.loop l74_1) s Q := by
  refine V.count (IB m K) ?_ ?_ k s hI
  · rintro k ⟨A, h⟩ ⟨le, h1, h2, h5, h8, hb, hn, hm⟩
    have hlt : K - (k + 1) < K := by omega
    generalize hi : K - (k + 1) = i at *
    have hk' : K - k = i + 1 := by omega
    have hw : IntKind.i64.wrap ((i : Int) + 1) = ((i + 1 : Nat) : Int) := by rw [wrap_id] <;> omega
    simp only at h1 h2 h5 h8 hb hn hm
    rw [cl74_1]
    refine .assoc (.then xr74_8 (by simp [o74_8, builtinD, lenD, pD, argA, h1, h8]; rfl) ?_)
    refine .head (by simp [opd, upd]; rfl) (fun _ => ?_) (fun hf => by simp [hlt] at hf)
    refine .seq (.block (.then xr74_10 (by simp [o74_10, builtinD, lenD, pD, argA]; rfl) ?_))
    refine .assoc (.then xr74_11 (by simp [o74_11, builtinD, lenD, pD, argA]; rfl) ?_)
    have hN0 : 1 ≤ h.next + 3 + 1 + 1 := by omega
    refine .seq (.block (loopD (K := K) (R := i) (N0 := h.next + 3 + 1 + 1) hv (sq_mark m i) hN0 ?_ m.rows.length _ ⟨Nat.le_refl _, ⟨?_, ?_, ?_, ?_, ?_, ?_, ?_⟩, ?_, ?_⟩))
    · rintro ⟨A2, h2'⟩ ⟨_, fx3, g10, gn⟩
      simp only at g10 gn
      have f1 := fx3.h1
      have f2 := fx3.h2
      have f5 := fx3.h5
      have f8 := fx3.h8
      have fb := fx3.hb
      have fN := fx3.hN
      simp only at f1 f2 f5 f8 fb fN
      show V E 74 68 r74_19 _ _
      refine .reg xr74_19 (by simp [o74_19, builtinD, lenD, pD, argA]; rfl) ?_
      show V E 74 68 r74_9 _ _
      refine .reg xr74_9 (by simp [o74_9, builtinD, lenD, pD, argA, f8]; rfl) ⟨by omega, ?_, ?_, ?_, ?_, ?_, ?_, ?_⟩
      · simp [upd, f1]
      · simp [upd, f2]
      · simp [upd, f5]
      · simp [upd, hk', hw]
      · simp [upds, fb]
      · simp <;> omega
      · rw [hk', markN, ← rowsM_all]
        have gn' := gn
        rw [Nat.sub_zero] at gn'
        have hw1 : Mat h2' (A2 9) (rowsM m (markN m i) m.rows.length) m.rows.length 1 h2'.next := by
          rcases gn' with q | ⟨b, bs, ex, q1, q2, q3, q4, q5, q6, q7, q8⟩
          · exact .inl q
          · exact .inr ⟨b, bs, ex, q1, q2, q3, by omega, q5, fun c hc => ⟨by have := (q6 c hc).1; omega, (q6 c hc).2⟩, q7, q8⟩
        simpa [upd, upds] using hw1.nx (h2'.next + 2 + 3) (hi' := h2'.next + 2 + 3) (by omega)
    · simp [upd, h1]
    · simp [upd, h2]
    · simp [upd, h5]
    · simp [upd, h8]
    · simp [upds, hb]
    · simp
    · simpa [upd, upds] using hm.nx (h.next + 3 + 1 + 1) (hi' := h.next + 3 + 1 + 1) (by omega)
    · simp [upd]
    · simp only [Nat.sub_self]
      exact .inl ⟨rfl, by simp [upd]⟩
  · rintro ⟨A, h⟩ hI
    obtain ⟨le, h1, h2, h5, h8, hb, hn, hm⟩ := hI
    simp only at h1 h2 h5 h8 hb hn hm
    rw [cl74_1]
    refine .assoc (.then xr74_8 (by simp [o74_8, builtinD, lenD, pD, argA, h1, h8]; rfl) ?_)
    refine .head (by simp [opd, upd]; rfl) (fun hf => by simp at hf) (fun _ => hQ _ ⟨by omega, ?_, ?_, ?_, ?_, ?_, ?_, ?_⟩)
    · simp [upd, h1]
    · simp [upd, h2]
    · simp [upd, h5]
    · simp [upd, h8]
    · simp [upds, hb]
    · simp <;> omega
    · simpa [upd, upds] using hm.nx (h.next + 3) (hi' := h.next + 3) (by omega)

theorem spec74 {m : M} (hv : Valid m) {K : Nat} (hK : K < 2 ^ 62) : bodyR 74 [encM m, .int .i64 K] = some (markD (markN m K)) := by
  have r1 := hv.r1
  refine bodyR_V (run74 _ _ (by simp)) ?_
  unfold b74
  refine .then xr74_0 (by simp [o74_0, builtinD, lenD, pD, argA, encM]; rfl) ?_
  refine .then xr74_1 (by simp [o74_1, builtinD, lenD, pD, argA]; rfl) ?_
  refine .then xr74_2 (by simp [o74_2, builtinD, lenD, pD, argA]; rfl) ?_
  refine .assoc (.then xr74_3 (by simp [o74_3, builtinD, lenD, pD, argA]; rfl) ?_)
  refine .seq (.block (loopA (K := K) hv ?_ m.rows.length _ ⟨Nat.le_refl _, ?_, ?_, ?_, ?_, ?_, ?_, ?_⟩))
  · rintro ⟨A, h⟩ ⟨le, h1, h2, h5, h7, hb, hn, hm⟩
    simp only at h1 h2 h5 h7 hb hn hm
    refine .assoc (.then xr74_7 (by simp [o74_7, builtinD, lenD, pD, argA]; rfl) ?_)
    refine .seq (.block (loopB hv hK ?_ K _ ⟨Nat.le_refl _, ?_, ?_, ?_, ?_, ?_, ?_, ?_⟩))
    · rintro ⟨A, h⟩ ⟨le, h1, h2, h5, h8, hb, hn, hm⟩
      simp only at h1 h2 h5 h8 hb hn hm
      refine .then xr74_20 (by simp [o74_20, builtinD, lenD, pD, argA]; rfl) (.ret ⟨_, by simp [resultsD, mapO, resultD, upd]; rfl, ?_⟩)
      rw [Nat.sub_zero] at hm
      have hne : markN m K ≠ [] := fun e => by have := (sq_mark m K).l; rw [e] at this; simp at this; omega
      obtain ⟨ks, tk, e1, e2⟩ := hm.snap true 6
      have etk : tk = .unk := e2 (.inr hne)
      subst etk
      simp [upd, upds]
      exact ⟨ks, e1⟩
    · simp [upd, h1]
    · simp [upd, h2]
    · simp [upd, h5]
    · simp [upd]
    · simp [upds, hb]
    · simp <;> omega
    · rw [Nat.sub_self, markN]
      rw [Nat.sub_zero] at hm
      simpa [upd, upds, zeroM] using hm.nx (h.next + 1) (hi' := h.next + 1) (by omega)
  · simp [upd, argA]
  · simp [upd]
  · simp [upd]
  · simp [upd]
  · simp [upd, encM]
  · simp
  · rw [Nat.sub_self]; exact .inl ⟨rfl, by simp [upd]⟩
end Go.Eng.E3

namespace Go.Eng.E3
open Go Go.Eng Go.Proofs
set_option maxRecDepth 100000
attribute [local simp] execR runOps stepOp wantedD evalOp opd upd St.put Eff.apply upds looseOk FP.free FP.idle apart Eff.fp ofVal loadD storeD partD setPart indexAddrD isShift arith unD callOp mapO D.okc pickD buildable buildD placeD convD
set_option linter.unusedSimpArgs false
set_option maxHeartbeats 2000000

/-! ### The partition by pairs that are not told apart -/

def lastB (mk : List (List Bool)) (s : Nat) (out : List Int) : Nat → Int
  | 0 => -1
  | t + 1 => if mget mk s t then lastB mk s out t else out.getD t 0
def partStep (mk : List (List Bool)) (p : List Int × Nat) (s : Nat) : List Int × Nat :=
  if lastB mk s p.1 s < 0 then (p.1 ++ [(p.2 : Int)], p.2 + 1) else (p.1 ++ [lastB mk s p.1 s], p.2)
def partN (mk : List (List Bool)) : Nat → List Int × Nat
  | 0 => ([], 0)
  | s + 1 => partStep mk (partN mk s) s

theorem partN_len (mk : List (List Bool)) : ∀ s, (partN mk s).1.length = s ∧ (partN mk s).2 ≤ s
  | 0 => ⟨rfl, Nat.le_refl _⟩
  | s + 1 => by
    have ih := partN_len mk s
    rw [partN, partStep]
    split
    · exact ⟨by simp [ih.1], by have := ih.2; simp; omega⟩
    · exact ⟨by simp [ih.1], by have := ih.2; simp; omega⟩

theorem mu122 : E.pol.mu 122 62 = false := by decide

/-- The inner loop: s is the row, out the blocks so far. -/
structure J122 (mk : List (List Bool)) (s : Nat) (out : List Int) (n : Nat) (tk : Tok) (blk : Nat → Blk) (nx : Nat) (k : Nat) (st : St) : Prop where
  le : k ≤ s
  h0 : st.A 0 = .frz (mk.map boolRow) .unk
  h3 : st.A 3 = .frz (out.map (D.int .i64)) tk
  h4 : st.A 4 = .int .i64 n
  h5 : st.A 5 = .int .i64 s
  h6 : st.A 6 = .int .i64 (lastB mk s out (s - k))
  h7 : st.A 7 = .int .i64 ((s - k : Nat) : Int)
  hb : st.h.blk = blk
  hn : nx ≤ st.h.next

theorem inner122 {mk : List (List Bool)} {s n : Nat} {out : List Int} {tk : Tok} {blk : Nat → Blk} {nx : Nat} (hsq : Sq mk.length mk) (hs : s < mk.length) (hl : mk.length ≤ 64) (ho : out.length = s) {Q : Po} (hQ : ∀ st, J122 mk s out n tk blk nx 0 st → Q.x 2 st) (k : Nat) (st : St) (hI : J122 mk s out n tk blk nx k st) :
    V E 122 41 (.loop l122_1) st Q := by
  refine V.count (J122 mk s out n tk blk nx) ?_ ?_ k st hI
  · rintro k ⟨A, h⟩ ⟨le, h0, h3, h4, h5, h6, h7, hb, hn⟩
    have hlt : s - (k + 1) < s := by omega
    generalize hi : s - (k + 1) = i at *
    have hk' : s - k = i + 1 := by omega
    have hw : IntKind.i64.wrap ((i : Int) + 1) = ((i + 1 : Nat) : Int) := by rw [wrap_id] <;> omega
    have hrl : i < mk[s].length := by rw [hsq.r _ (List.getElem_mem hs)]; omega
    have hmg : mget mk s i = mk[s][i] := by simp [mget, hs, hrl]
    have hio : i < out.length := by omega
    simp only at h0 h3 h4 h5 h6 h7 hb hn
    rw [cl122_1]
    refine .assoc (.then xr122_8 (by simp [o122_8, builtinD, lenD, pD, argA, h5, h7]; rfl) ?_)
    refine .head (by simp [opd, upd]; rfl) (fun _ => ?_) (fun hf => by simp [hlt] at hf)
    refine .seq (.block (.then xr122_10 (by simp [o122_10, builtinD, lenD, pD, argA, h0, h5, h7, hs, hrl, boolRow]; rfl) ?_))
    refine .cond (v := !mk[s][i]) (by simp [opd, upd]) (fun q => ?_) (fun q => .skip ?_)
    · have hv0 : mk[s][i] = false := by simpa using q
      refine .reg xr122_11 (by simp [o122_11, builtinD, lenD, pD, argA, h3, h7, hio]; rfl) ?_
      show V E 122 41 r122_9 _ _
      refine .reg xr122_9 (by simp [o122_9, builtinD, lenD, pD, argA, h7]; rfl) ⟨by omega, ?_, ?_, ?_, ?_, ?_, ?_, ?_, ?_⟩
      · simp [upd, h0]
      · simp [upd, h3]
      · simp [upd, h4]
      · simp [upd, h5]
      · simp [upd, hk', lastB, hmg, hv0, hio]
      · simp [upd, hk', hw]
      · simp [upds, hb]
      · simp; omega
    · have hv0 : mk[s][i] = true := by simpa using q
      refine .reg xr122_9 (by simp [o122_9, builtinD, lenD, pD, argA, h7]; rfl) ⟨by omega, ?_, ?_, ?_, ?_, ?_, ?_, ?_, ?_⟩
      · simp [upd, h0]
      · simp [upd, h3]
      · simp [upd, h4]
      · simp [upd, h5]
      · simp [upd, hk', lastB, hmg, hv0, h6]
      · simp [upd, hk', hw]
      · simp [upds, hb]
      · simp; omega
  · rintro ⟨A, h⟩ ⟨le, h0, h3, h4, h5, h6, h7, hb, hn⟩
    simp only at h0 h3 h4 h5 h6 h7 hb hn
    rw [cl122_1]
    refine .assoc (.then xr122_8 (by simp [o122_8, builtinD, lenD, pD, argA, h5, h7]; rfl) ?_)
    refine .head (by simp [opd, upd]; rfl) (fun hf => by simp at hf) (fun _ => hQ _ ⟨by omega, ?_, ?_, ?_, ?_, ?_, ?_, ?_, ?_⟩)
    · simp [upd, h0]
    · simp [upd, h3]
    · simp [upd, h4]
    · simp [upd, h5]
    · simp [upd, h6]
    · simp [upd, h7]
    · simp [upds, hb]
    · simp; omega

structure I122 (mk : List (List Bool)) (k : Nat) (st : St) : Prop where
  le : k ≤ mk.length
  h0 : st.A 0 = .frz (mk.map boolRow) .unk
  h3 : ∃ tk, st.A 3 = .frz ((partN mk (mk.length - k)).1.map (D.int .i64)) tk ∧ TokB st.h.blk tk 1 st.h.next ∧ (tk = .nil ↔ mk.length - k = 0)
  h4 : st.A 4 = .int .i64 (partN mk (mk.length - k)).2
  h5 : st.A 5 = .int .i64 ((mk.length - k : Nat) : Int)

theorem spec122 {mk : List (List Bool)} (hsq : Sq mk.length mk) (hl : mk.length ≤ 64) : bodyR 122 [.frz (mk.map boolRow) .unk] = some (.frz ((partN mk mk.length).1.map (D.int .i64)) (tkA' mk)) := by
  refine bodyR_V (run122 _ _ (by simp)) ?_
  unfold b122
  refine .then xr122_0 (by simp [o122_0, builtinD, lenD, pD, argA]; rfl) ?_
  refine .then xr122_1 (by simp [o122_1, builtinD, lenD, pD, argA]; rfl) ?_
  refine .then xr122_2 (by simp [o122_2, builtinD, lenD, pD, argA]; rfl) ?_
  refine .assoc (.then xr122_3 (by simp [o122_3, builtinD, lenD, pD, argA]; rfl) ?_)
  refine .seq (.block (V.count (I122 mk) ?_ ?_ mk.length _ ⟨Nat.le_refl _, by simp [upd, argA], ⟨.nil, by simp [upd, partN], .inl rfl, by simp⟩, by simp [upd, partN], by simp [upd]⟩))
  · rintro k ⟨A, h⟩ ⟨le, h0, ⟨tk, h3, ht, htn⟩, h4, h5⟩
    have hlt : mk.length - (k + 1) < mk.length := by omega
    generalize hi : mk.length - (k + 1) = s at *
    have hk' : mk.length - k = s + 1 := by omega
    have hw : IntKind.i64.wrap ((s : Int) + 1) = ((s + 1 : Nat) : Int) := by rw [wrap_id] <;> omega
    have hpl := partN_len mk s
    generalize hp : partN mk s = p at *
    have hw2 : IntKind.i64.wrap ((p.2 : Int) + 1) = ((p.2 + 1 : Nat) : Int) := by rw [wrap_id] <;> omega
    simp only at h0 h3 h4 h5 ht
    rw [cl122_0]
    refine .assoc (.then xr122_4 (by simp [o122_4, builtinD, lenD, pD, argA, h0, h5]; rfl) ?_)
    refine .head (by simp [opd, upd]; rfl) (fun _ => ?_) (fun hf => by simp [hlt] at hf)
    refine .seq (.block (.then xr122_6 (by simp [o122_6, builtinD, lenD, pD, argA]; rfl) ?_))
    refine .assoc (.then xr122_7 (by simp [o122_7, builtinD, lenD, pD, argA]; rfl) ?_)
    refine .seq (.block (inner122 (n := p.2) (tk := tk) (blk := h.blk) (nx := h.next) hsq hlt hl hpl.1 ?_ s _ ⟨Nat.le_refl _, by simp [upd, h0], by simp [upd, h3], by simp [upd, h4], by simp [upd, h5], by simp [upd, lastB], by simp [upd], by simp [upds], by simp; omega⟩))
    rintro ⟨A1, h1⟩ ⟨_, g0, g3, g4, g5, g6, g7, gb, gn⟩
    simp only at g0 g3 g4 g5 g6 g7 gb gn
    rw [Nat.sub_zero] at g6
    have ht1 : TokB h1.blk tk 1 h1.next := by rw [gb]; exact ht.mono gn (fun b _ hb => hb)
    show V E 122 41 _ _ _
    -- behind the test
    have tail : ∀ (A2 : Nat → D) (nx : Nat) (b : Int) (n' : Nat) (Q : Po), h1.next ≤ nx → A2 0 = A1 0 → A2 3 = A1 3 → A2 5 = A1 5 → A2 6 = .int .i64 b → A2 4 = .int .i64 n' → partStep mk p s = (p.1 ++ [b], n') → (∀ st, I122 mk k st → Q.n st) → V E 122 41 r122_15 ⟨A2, ⟨nx, h1.blk⟩⟩ ((Q.upto fun s' => V E 122 41 r122_5 s' Q).within 1) := by
      intro A2 nx b n' Q hnx e0 e3 e5 e6 e4 est hq
      have ht2 : TokB h1.blk tk 1 nx := ht1.mono hnx (fun b _ hb => hb)
      have ha : ∀ s, builtinD E.T (E.pol.mu 122) s h1.blk .append [62, 62] [.frz (p.1.map (D.int .i64)) tk, .frz [.int .i64 b] .exact] = some { v := .frz ((p.1 ++ [b]).map (D.int .i64)) (.own s 1), wr := tokWr tk s, rd := tokRd tk } := fun s => app62 mu122 ht2 (by omega)
      rw [g3] at e3
      refine .reg xr122_15 (by simp [o122_15, pD, argA, e3, e6, ha, mu122, mapK, snapDepth, snap_int, kills]; rfl) ?_
      show V E 122 41 r122_5 _ Q
      refine .reg xr122_5 (by simp [o122_5, builtinD, lenD, pD, argA, e5, g5]; rfl) (hq _ ⟨by omega, ?_, ⟨.own (nx + 3) 1, ?_, ?_, by simp; omega⟩, ?_, ?_⟩)
      · simp [upd, e0, g0]
      · simp [upd, hk', partN, hp, est]
      · exact TokB.grow (by simp <;> omega)
      · simp [upd, hk', partN, hp, est, e4]
      · simp [upd, hk', hw]
    refine .assoc (.then xr122_12 (by simp [o122_12, builtinD, lenD, pD, argA, g6]; rfl) ?_)
    refine .seq (.cond (v := decide (lastB mk s p.1 s < 0)) (by simp [opd, upd]) (fun q => ?_) (fun q => .skip ?_))
    · have hlb : lastB mk s p.1 s < 0 := by simpa using q
      refine .then xr122_13 (by simp [o122_13, builtinD, lenD, pD, argA, g4]; rfl) ?_
      refine .reg xr122_14 (by simp [o122_14, builtinD, lenD, pD, argA, g4, hw2]; rfl) ?_
      refine tail _ _ p.2 (p.2 + 1) _ ?_ ?_ ?_ ?_ ?_ ?_ ?_ (fun st hst => hst)
      · omega
      · simp [upd]
      · simp [upd]
      · simp [upd]
      · simp [upd]
      · simp [upd]
      · simp [partStep, hlb]
    · have hlb : ¬ lastB mk s p.1 s < 0 := by simpa using q
      refine tail _ _ (lastB mk s p.1 s) p.2 _ ?_ ?_ ?_ ?_ ?_ ?_ ?_ (fun st hst => hst)
      · omega
      · simp [upd]
      · simp [upd]
      · simp [upd]
      · simp [upd, g6]
      · simp [upd, g4]
      · simp [partStep, hlb]
  · rintro ⟨A, h⟩ ⟨le, h0, ⟨tk, h3, ht, htn⟩, h4, h5⟩
    simp only at h0 h3 h4 h5 ht
    rw [cl122_0]
    refine .assoc (.then xr122_4 (by simp [o122_4, builtinD, lenD, pD, argA, h0, h5]; rfl) ?_)
    refine .head (by simp [opd, upd]; rfl) (fun hf => by simp at hf) (fun _ => ?_)
    refine .then xr122_16 (by simp [o122_16, builtinD, lenD, pD, argA, h3]; rfl) (.ret ⟨_, by simp [resultsD, mapO, resultD, upd]; rfl, ?_⟩)
    rw [show snapDepth = 7 + 2 from rfl, snap_ints]
    have : Tok.fade true tk = tkA' mk := by
      rcases ht with rfl | ⟨o, rfl, _, _⟩
      · have : mk = [] := by have := htn.1 rfl; simpa using this
        subst this; rfl
      · have : mk ≠ [] := fun e => by subst e; have := htn.2 rfl; cases this
        cases mk with
        | nil => exact absurd rfl this
        | cons _ _ => rfl
    simp [this]
end Go.Eng.E3

namespace Go.Eng.E3
open Go Go.Eng Go.Proofs
set_option maxRecDepth 100000

/-! ### 135: gauntlet/machines.none -/
noncomputable def r135_0 : Code := navF Try.f135 [0]
noncomputable def o135_0 : List Oper := [sop (some 0) (.alloc 55) none]
theorem xr135_0 : Xr 135 2 r135_0 o135_0 [] := execI_reg' (by kernel_rfl)
noncomputable def r135_1 : Code := navF Try.f135 [1, 0]
noncomputable def o135_1 : List Oper := [sop (some 1) (.build 55 #[(0, (.const (.int .i64 (-1)))), (1, (.const (.int .i64 (-1))))]) none,
    sop none (.store 55 (.tmp 0) (.tmp 1)) none]
theorem xr135_1 : Xr 135 2 r135_1 o135_1 [] := execI_reg' (by kernel_rfl)
noncomputable def b135 : Code := (.seq r135_0 (.seq r135_1 .ret))
theorem body135 : Try.f135.body = some b135 := by kernel_rfl
theorem fn135 : E.fn 135 = some Try.f135 := by kernel_rfl
theorem run135 (args : List D) (h : H) (hl : args.length ≤ 2) : bodyI E 135 args h = resOf E [(.cell 0 55)] (execI E 135 2 b135 ⟨argA args, h⟩) := bodyI_res fn135 body135 rfl rfl args h hl

/-! ### 108: gauntlet/machines.fits -/
noncomputable def r108_0 : Code := navF Try.f108 [0]
noncomputable def o108_0 : List Oper := [sop (some 2) (.box 34 (.tmp 0)) none,
    sop (some 3) (.box 55 (.tmp 1)) none,
    sop (some 4) (.assign (.const (.bool false))) none]
theorem xr108_0 : Xr 108 33 r108_0 o108_0 [] := execI_reg' (by kernel_rfl)
noncomputable def r108_1 : Code := navF Try.f108 [1, 0]
noncomputable def o108_1 : List Oper := [sop (some 5) (.load 55 (.tmp 3)) none,
    sop (some 6) (.call { callee := (.value (.func 135)), args := #[], argTypes := #[] }) none,
    sop (some 7) (.binOp .eql 55 (.tmp 5) (.tmp 6) 55) none,
    sop (some 8) (.move (.tmp 7)) none,
    sop (some 9) (.fieldAddr 55 (.tmp 3) 0) (some (3, false)),
    sop (some 10) (.load 3 (.tmp 9)) (some (3, false)),
    sop (some 11) (.binOp .geq 3 (.tmp 10) (.const (.int .i64 0)) 3) (some (3, false)),
    sop (some 12) (.move (.tmp 11)) (some (3, false)),
    sop (some 13) (.fieldAddr 55 (.tmp 3) 0) (some (7, true)),
    sop (some 14) (.load 3 (.tmp 13)) (some (7, true)),
    sop (some 15) (.fieldAddr 34 (.tmp 2) 2) (some (7, true)),
    sop (some 16) (.load 32 (.tmp 15)) (some (7, true)),
    sop (some 17) (.call { callee := (.builtin .len), args := #[(.tmp 16)], argTypes := #[32] }) (some (7, true)),
    sop (some 18) (.binOp .lss 3 (.tmp 14) (.tmp 17) 3) (some (7, true)),
    sop (some 19) (.pick (.tmp 12) (.tmp 18) (.const (.bool false))) (some (3, false)),
    sop (some 20) (.move (.tmp 19)) (some (3, false)),
    sop (some 21) (.fieldAddr 55 (.tmp 3) 1) (some (15, true)),
    sop (some 22) (.load 3 (.tmp 21)) (some (15, true)),
    sop (some 23) (.binOp .geq 3 (.tmp 22) (.const (.int .i64 0)) 3) (some (15, true)),
    sop (some 24) (.pick (.tmp 20) (.tmp 23) (.const (.bool false))) (some (3, false)),
    sop (some 25) (.move (.tmp 24)) (some (3, false)),
    sop (some 26) (.fieldAddr 55 (.tmp 3) 1) (some (20, true)),
    sop (some 27) (.load 3 (.tmp 26)) (some (20, true)),
    sop (some 28) (.fieldAddr 34 (.tmp 2) 1) (some (20, true)),
    sop (some 29) (.load 3 (.tmp 28)) (some (20, true)),
    sop (some 30) (.binOp .lss 3 (.tmp 27) (.tmp 29) 3) (some (20, true)),
    sop (some 31) (.pick (.tmp 25) (.tmp 30) (.const (.bool false))) (some (3, false)),
    sop (some 32) (.pick (.tmp 8) (.const (.bool true)) (.tmp 31)) none,
    sop (some 4) (.assign (.tmp 32)) none]
theorem xr108_1 : Xr 108 33 r108_1 o108_1 [(0, 1), (9, 11), (9, 12), (22, 24)] := execI_reg' (by kernel_rfl)
noncomputable def b108 : Code := (.seq r108_0 (.seq r108_1 .ret))
theorem body108 : Try.f108.body = some b108 := by kernel_rfl
theorem fn108 : E.fn 108 = some Try.f108 := by kernel_rfl
theorem run108 (args : List D) (h : H) (hl : args.length ≤ 33) : bodyI E 108 args h = resOf E [(.tmp 4)] (execI E 108 33 b108 ⟨argA args, h⟩) := bodyI_res fn108 body108 rfl rfl args h hl

/-! ### 107: gauntlet/machines.Check$1 -/
noncomputable def r107_0 : Code := navF Try.f107 [0]
noncomputable def o107_0 : List Oper := [sop (some 2) (.box 55 (.tmp 0)) none,
    sop (some 3) (.assign (.const (.bool false))) none]
theorem xr107_0 : Xr 107 8 r107_0 o107_0 [] := execI_reg' (by kernel_rfl)
noncomputable def r107_1 : Code := navF Try.f107 [1, 0]
noncomputable def o107_1 : List Oper := [sop (some 4) (.load 34 (.tmp 1)) none,
    sop (some 5) (.load 55 (.tmp 2)) none,
    sop (some 6) (.call { callee := (.value (.func 108)), args := #[(.tmp 4), (.tmp 5)], argTypes := #[34, 55] }) none,
    sop (some 7) (.unOp .not 4 (.tmp 6)) none,
    sop (some 3) (.assign (.tmp 7)) none]
theorem xr107_1 : Xr 107 8 r107_1 o107_1 [] := execI_reg' (by kernel_rfl)
noncomputable def b107 : Code := (.seq r107_0 (.seq r107_1 .ret))
theorem body107 : Try.f107.body = some b107 := by kernel_rfl
theorem fn107 : E.fn 107 = some Try.f107 := by kernel_rfl
theorem run107 (args : List D) (h : H) (hl : args.length ≤ 8) : bodyI E 107 args h = resOf E [(.tmp 3)] (execI E 107 8 b107 ⟨argA args, h⟩) := bodyI_res fn107 body107 rfl rfl args h hl

/-! ### 134: slices.IndexFunc[[]gauntlet/api.Edge,gauntlet/api.Edge] -/
noncomputable def r134_0 : Code := navF Try.f134 [0]
noncomputable def o134_0 : List Oper := [sop (some 4) (.assign (.const (.int .i64 0))) none]
theorem xr134_0 : Xr 134 19 r134_0 o134_0 [] := execI_reg' (by kernel_rfl)
noncomputable def r134_1 : Code := navF Try.f134 [1, 0, 0]
noncomputable def o134_1 : List Oper := [sop (some 6) (.move (.tmp 0)) none,
    sop (some 7) (.call { callee := (.builtin .len), args := #[(.tmp 6)], argTypes := #[72] }) none,
    sop (some 8) (.move (.const (.int .i64 0))) none]
theorem xr134_1 : Xr 134 19 r134_1 o134_1 [] := execI_reg' (by kernel_rfl)
noncomputable def l134_0 : Code := navF Try.f134 [1, 0, 1, 0, 0]
noncomputable def r134_2 : Code := navF Try.f134 [1, 0, 1, 0, 0, 0]
noncomputable def o134_2 : List Oper := [sop (some 9) (.binOp .lss 3 (.tmp 8) (.tmp 7) 3) none]
theorem xr134_2 : Xr 134 19 r134_2 o134_2 [] := execI_reg' (by kernel_rfl)
noncomputable def r134_3 : Code := navF Try.f134 [1, 0, 1, 0, 0, 1, 1, 0, 0, 0]
noncomputable def o134_3 : List Oper := [sop (some 10) (.move (.tmp 8)) none,
    sop (some 5) (.assign (.tmp 10)) none]
theorem xr134_3 : Xr 134 19 r134_3 o134_3 [] := execI_reg' (by kernel_rfl)
noncomputable def r134_4 : Code := navF Try.f134 [1, 0, 1, 0, 0, 1, 1, 0, 0, 1, 0]
noncomputable def o134_4 : List Oper := [sop (some 11) (.move (.tmp 1)) none,
    sop (some 12) (.move (.tmp 0)) none,
    sop (some 13) (.move (.tmp 5)) none,
    sop (some 14) (.indexAddr 72 (.tmp 12) (.tmp 13)) none,
    sop (some 15) (.load 55 (.tmp 14)) none,
    sop (some 16) (.call { callee := (.value (.tmp 11)), args := #[(.tmp 15)], argTypes := #[55] }) none]
theorem xr134_4 : Xr 134 19 r134_4 o134_4 [] := execI_reg' (by kernel_rfl)
noncomputable def r134_5 : Code := navF Try.f134 [1, 0, 1, 0, 0, 1, 1, 0, 0, 1, 1, 0, 0]
noncomputable def o134_5 : List Oper := [sop (some 17) (.move (.tmp 5)) none,
    sop (some 4) (.assign (.tmp 17)) none]
theorem xr134_5 : Xr 134 19 r134_5 o134_5 [] := execI_reg' (by kernel_rfl)
noncomputable def r134_6 : Code := navF Try.f134 [1, 0, 1, 0, 0, 1, 1, 1]
noncomputable def o134_6 : List Oper := [sop (some 18) (.binOp .add 3 (.tmp 8) (.const (.int .i64 1)) 3) none,
    sop (some 8) (.move (.tmp 18)) none]
theorem xr134_6 : Xr 134 19 r134_6 o134_6 [] := execI_reg' (by kernel_rfl)
theorem cl134_0 : l134_0 = (.seq r134_2 (.seq (.cond (.tmp 9) .skip (.exit 0)) (.seq (.block 1 (.seq r134_3 (.seq r134_4 (.cond (.tmp 16) (.seq r134_5 .ret) .skip)))) r134_6))) := by kernel_rfl
noncomputable def r134_7 : Code := navF Try.f134 [1, 1, 0]
noncomputable def o134_7 : List Oper := [sop (some 4) (.assign (.const (.int .i64 (-1)))) none]
theorem xr134_7 : Xr 134 19 r134_7 o134_7 [] := execI_reg' (by kernel_rfl)
noncomputable def b134 : Code := (.seq r134_0 (.seq (.seq r134_1 (.block 0 (.loop l134_0))) (.seq r134_7 .ret)))
theorem body134 : Try.f134.body = some b134 := by kernel_rfl
theorem fn134 : E.fn 134 = some Try.f134 := by kernel_rfl
theorem run134 (args : List D) (h : H) (hl : args.length ≤ 19) : bodyI E 134 args h = resOf E [(.tmp 4)] (execI E 134 19 b134 ⟨argA args, h⟩) := bodyI_res fn134 body134 rfl rfl args h hl

/-! ### 106: slices.ContainsFunc[[]gauntlet/api.Edge,gauntlet/api.Edge] -/
noncomputable def r106_0 : Code := navF Try.f106 [0]
noncomputable def o106_0 : List Oper := [sop (some 4) (.assign (.const (.bool false))) none]
theorem xr106_0 : Xr 106 9 r106_0 o106_0 [] := execI_reg' (by kernel_rfl)
noncomputable def r106_1 : Code := navF Try.f106 [1, 0]
noncomputable def o106_1 : List Oper := [sop (some 5) (.move (.tmp 0)) none,
    sop (some 6) (.move (.tmp 1)) none,
    sop (some 7) (.call { callee := (.value (.func 134)), args := #[(.tmp 5), (.tmp 6)], argTypes := #[72, 163] }) none,
    sop (some 8) (.binOp .geq 3 (.tmp 7) (.const (.int .i64 0)) 3) none,
    sop (some 4) (.assign (.tmp 8)) none]
theorem xr106_1 : Xr 106 9 r106_1 o106_1 [] := execI_reg' (by kernel_rfl)
noncomputable def b106 : Code := (.seq r106_0 (.seq r106_1 .ret))
theorem body106 : Try.f106.body = some b106 := by kernel_rfl
theorem fn106 : E.fn 106 = some Try.f106 := by kernel_rfl
theorem run106 (args : List D) (h : H) (hl : args.length ≤ 9) : bodyI E 106 args h = resOf E [(.tmp 4)] (execI E 106 9 b106 ⟨argA args, h⟩) := bodyI_res fn106 body106 rfl rfl args h hl

/-! ### 85: gauntlet/machines.Check -/
noncomputable def r85_0 : Code := navF Try.f85 [0]
noncomputable def o85_0 : List Oper := [sop (some 1) (.box 34 (.tmp 0)) none,
    sop (some 2) (.assign (.const (.int .i64 0))) none]
theorem xr85_0 : Xr 85 51 r85_0 o85_0 [] := execI_reg' (by kernel_rfl)
noncomputable def r85_1 : Code := navF Try.f85 [1, 0, 0]
noncomputable def o85_1 : List Oper := [sop (some 5) (.fieldAddr 34 (.tmp 1) 0) none,
    sop (some 6) (.load 3 (.tmp 5)) none,
    sop (some 7) (.binOp .gtr 3 (.tmp 6) (.const (.int .i64 16)) 3) none,
    sop (some 8) (.move (.tmp 7)) none,
    sop (some 9) (.fieldAddr 34 (.tmp 1) 1) (some (3, false)),
    sop (some 10) (.load 3 (.tmp 9)) (some (3, false)),
    sop (some 11) (.binOp .gtr 3 (.tmp 10) (.const (.int .i64 16)) 3) (some (3, false)),
    sop (some 12) (.pick (.tmp 8) (.const (.bool true)) (.tmp 11)) none,
    sop (some 13) (.move (.tmp 12)) none,
    sop (some 14) (.fieldAddr 34 (.tmp 1) 2) (some (8, false)),
    sop (some 15) (.load 32 (.tmp 14)) (some (8, false)),
    sop (some 16) (.call { callee := (.builtin .len), args := #[(.tmp 15)], argTypes := #[32] }) (some (8, false)),
    sop (some 17) (.binOp .gtr 3 (.tmp 16) (.const (.int .i64 64)) 3) (some (8, false)),
    sop (some 18) (.pick (.tmp 13) (.const (.bool true)) (.tmp 17)) none]
theorem xr85_1 : Xr 85 51 r85_1 o85_1 [] := execI_reg' (by kernel_rfl)
noncomputable def r85_2 : Code := navF Try.f85 [1, 0, 1, 0, 0]
noncomputable def o85_2 : List Oper := [sop (some 2) (.assign (.const (.int .i64 3))) none]
theorem xr85_2 : Xr 85 51 r85_2 o85_2 [] := execI_reg' (by kernel_rfl)
noncomputable def r85_3 : Code := navF Try.f85 [1, 1, 0, 0]
noncomputable def o85_3 : List Oper := [sop (some 19) (.fieldAddr 34 (.tmp 1) 0) none,
    sop (some 20) (.load 3 (.tmp 19)) none,
    sop (some 21) (.binOp .lss 3 (.tmp 20) (.const (.int .i64 1)) 3) none,
    sop (some 22) (.move (.tmp 21)) none,
    sop (some 23) (.fieldAddr 34 (.tmp 1) 1) (some (3, false)),
    sop (some 24) (.load 3 (.tmp 23)) (some (3, false)),
    sop (some 25) (.binOp .lss 3 (.tmp 24) (.const (.int .i64 1)) 3) (some (3, false)),
    sop (some 26) (.pick (.tmp 22) (.const (.bool true)) (.tmp 25)) none,
    sop (some 27) (.move (.tmp 26)) none,
    sop (some 28) (.fieldAddr 34 (.tmp 1) 2) (some (8, false)),
    sop (some 29) (.load 32 (.tmp 28)) (some (8, false)),
    sop (some 30) (.call { callee := (.builtin .len), args := #[(.tmp 29)], argTypes := #[32] }) (some (8, false)),
    sop (some 31) (.binOp .lss 3 (.tmp 30) (.const (.int .i64 1)) 3) (some (8, false)),
    sop (some 32) (.pick (.tmp 27) (.const (.bool true)) (.tmp 31)) none]
theorem xr85_3 : Xr 85 51 r85_3 o85_3 [] := execI_reg' (by kernel_rfl)
noncomputable def r85_4 : Code := navF Try.f85 [1, 1, 0, 1, 0, 0]
noncomputable def o85_4 : List Oper := [sop (some 2) (.assign (.const (.int .i64 1))) none]
theorem xr85_4 : Xr 85 51 r85_4 o85_4 [] := execI_reg' (by kernel_rfl)
noncomputable def r85_5 : Code := navF Try.f85 [1, 1, 1, 0, 0]
noncomputable def o85_5 : List Oper := [sop (some 33) (.fieldAddr 34 (.tmp 1) 2) none,
    sop (some 34) (.load 32 (.tmp 33)) none,
    sop (some 35) (.call { callee := (.builtin .len), args := #[(.tmp 34)], argTypes := #[32] }) none,
    sop (some 36) (.move (.const (.int .i64 0))) none]
theorem xr85_5 : Xr 85 51 r85_5 o85_5 [] := execI_reg' (by kernel_rfl)
noncomputable def l85_0 : Code := navF Try.f85 [1, 1, 1, 0, 1, 0, 0]
noncomputable def r85_6 : Code := navF Try.f85 [1, 1, 1, 0, 1, 0, 0, 0]
noncomputable def o85_6 : List Oper := [sop (some 37) (.binOp .lss 3 (.tmp 36) (.tmp 35) 3) none]
theorem xr85_6 : Xr 85 51 r85_6 o85_6 [] := execI_reg' (by kernel_rfl)
noncomputable def r85_7 : Code := navF Try.f85 [1, 1, 1, 0, 1, 0, 0, 1, 1, 0, 0, 0]
noncomputable def o85_7 : List Oper := [sop (some 38) (.indexAddr 32 (.tmp 34) (.tmp 36)) none,
    sop (some 39) (.load 72 (.tmp 38)) none,
    sop (some 4) (.assign (.tmp 39)) none]
theorem xr85_7 : Xr 85 51 r85_7 o85_7 [] := execI_reg' (by kernel_rfl)
noncomputable def r85_8 : Code := navF Try.f85 [1, 1, 1, 0, 1, 0, 0, 1, 1, 0, 0, 1, 0]
noncomputable def o85_8 : List Oper := [sop (some 40) (.move (.tmp 4)) none,
    sop (some 41) (.call { callee := (.builtin .len), args := #[(.tmp 40)], argTypes := #[72] }) none,
    sop (some 42) (.fieldAddr 34 (.tmp 1) 0) none,
    sop (some 43) (.load 3 (.tmp 42)) none,
    sop (some 44) (.binOp .neq 3 (.tmp 41) (.tmp 43) 3) none,
    sop (some 45) (.move (.tmp 44)) none,
    sop (some 46) (.move (.tmp 4)) (some (5, false)),
    sop (some 47) (.makeFunc (.func 107) #[] #[(.tmp 1)]) (some (5, false)),
    sop (some 48) (.call { callee := (.value (.func 106)), args := #[(.tmp 46), (.tmp 47)], argTypes := #[72, 163] }) (some (5, false)),
    sop (some 49) (.pick (.tmp 45) (.const (.bool true)) (.tmp 48)) none]
theorem xr85_8 : Xr 85 51 r85_8 o85_8 [] := execI_reg' (by kernel_rfl)
noncomputable def r85_9 : Code := navF Try.f85 [1, 1, 1, 0, 1, 0, 0, 1, 1, 0, 0, 1, 1, 0, 0]
noncomputable def o85_9 : List Oper := [sop (some 2) (.assign (.const (.int .i64 1))) none]
theorem xr85_9 : Xr 85 51 r85_9 o85_9 [] := execI_reg' (by kernel_rfl)
noncomputable def r85_10 : Code := navF Try.f85 [1, 1, 1, 0, 1, 0, 0, 1, 1, 1]
noncomputable def o85_10 : List Oper := [sop (some 50) (.binOp .add 3 (.tmp 36) (.const (.int .i64 1)) 3) none,
    sop (some 36) (.move (.tmp 50)) none]
theorem xr85_10 : Xr 85 51 r85_10 o85_10 [] := execI_reg' (by kernel_rfl)
theorem cl85_0 : l85_0 = (.seq r85_6 (.seq (.cond (.tmp 37) .skip (.exit 0)) (.seq (.block 1 (.seq r85_7 (.seq r85_8 (.cond (.tmp 49) (.seq r85_9 .ret) .skip)))) r85_10))) := by kernel_rfl
noncomputable def r85_11 : Code := navF Try.f85 [1, 1, 1, 1, 0]
noncomputable def o85_11 : List Oper := [sop (some 2) (.assign (.const (.int .i64 0))) none]
theorem xr85_11 : Xr 85 51 r85_11 o85_11 [] := execI_reg' (by kernel_rfl)
noncomputable def b85 : Code := (.seq r85_0 (.seq (.seq r85_1 (.cond (.tmp 18) (.seq r85_2 .ret) .skip)) (.seq (.seq r85_3 (.cond (.tmp 32) (.seq r85_4 .ret) .skip)) (.seq (.seq r85_5 (.block 0 (.loop l85_0))) (.seq r85_11 .ret)))))
theorem body85 : Try.f85.body = some b85 := by kernel_rfl
theorem fn85 : E.fn 85 = some Try.f85 := by kernel_rfl
theorem run85 (args : List D) (h : H) (hl : args.length ≤ 51) : bodyI E 85 args h = resOf E [(.tmp 2)] (execI E 85 51 b85 ⟨argA args, h⟩) := bodyI_res fn85 body85 rfl rfl args h hl

/-! ### 84: cmp.Or[gauntlet/api.Errno] -/
noncomputable def r84_0 : Code := navF Try.f84 [0]
noncomputable def o84_0 : List Oper := [sop (some 2) (.assign (.const (.int .i64 0))) none]
theorem xr84_0 : Xr 84 18 r84_0 o84_0 [] := execI_reg' (by kernel_rfl)
noncomputable def r84_1 : Code := navF Try.f84 [1, 0]
noncomputable def o84_1 : List Oper := [sop (some 3) (.assign (.const (.int .i64 0))) none]
theorem xr84_1 : Xr 84 18 r84_1 o84_1 [] := execI_reg' (by kernel_rfl)
noncomputable def r84_2 : Code := navF Try.f84 [1, 1, 0, 0]
noncomputable def o84_2 : List Oper := [sop (some 6) (.move (.tmp 0)) none,
    sop (some 7) (.call { callee := (.builtin .len), args := #[(.tmp 6)], argTypes := #[160] }) none,
    sop (some 8) (.move (.const (.int .i64 0))) none]
theorem xr84_2 : Xr 84 18 r84_2 o84_2 [] := execI_reg' (by kernel_rfl)
noncomputable def l84_0 : Code := navF Try.f84 [1, 1, 0, 1, 0, 0]
noncomputable def r84_3 : Code := navF Try.f84 [1, 1, 0, 1, 0, 0, 0]
noncomputable def o84_3 : List Oper := [sop (some 9) (.binOp .lss 3 (.tmp 8) (.tmp 7) 3) none]
theorem xr84_3 : Xr 84 18 r84_3 o84_3 [] := execI_reg' (by kernel_rfl)
noncomputable def r84_4 : Code := navF Try.f84 [1, 1, 0, 1, 0, 0, 1, 1, 0, 0, 0]
noncomputable def o84_4 : List Oper := [sop (some 10) (.indexAddr 160 (.tmp 6) (.tmp 8)) none,
    sop (some 11) (.load 40 (.tmp 10)) none,
    sop (some 5) (.assign (.tmp 11)) none]
theorem xr84_4 : Xr 84 18 r84_4 o84_4 [] := execI_reg' (by kernel_rfl)
noncomputable def r84_5 : Code := navF Try.f84 [1, 1, 0, 1, 0, 0, 1, 1, 0, 0, 1, 0]
noncomputable def o84_5 : List Oper := [sop (some 12) (.move (.tmp 5)) none,
    sop (some 13) (.move (.tmp 3)) none,
    sop (some 14) (.binOp .neq 40 (.tmp 12) (.tmp 13) 40) none]
theorem xr84_5 : Xr 84 18 r84_5 o84_5 [] := execI_reg' (by kernel_rfl)
noncomputable def r84_6 : Code := navF Try.f84 [1, 1, 0, 1, 0, 0, 1, 1, 0, 0, 1, 1, 0, 0]
noncomputable def o84_6 : List Oper := [sop (some 15) (.move (.tmp 5)) none,
    sop (some 2) (.assign (.tmp 15)) none]
theorem xr84_6 : Xr 84 18 r84_6 o84_6 [] := execI_reg' (by kernel_rfl)
noncomputable def r84_7 : Code := navF Try.f84 [1, 1, 0, 1, 0, 0, 1, 1, 1]
noncomputable def o84_7 : List Oper := [sop (some 16) (.binOp .add 3 (.tmp 8) (.const (.int .i64 1)) 3) none,
    sop (some 8) (.move (.tmp 16)) none]
theorem xr84_7 : Xr 84 18 r84_7 o84_7 [] := execI_reg' (by kernel_rfl)
theorem cl84_0 : l84_0 = (.seq r84_3 (.seq (.cond (.tmp 9) .skip (.exit 0)) (.seq (.block 1 (.seq r84_4 (.seq r84_5 (.cond (.tmp 14) (.seq r84_6 .ret) .skip)))) r84_7))) := by kernel_rfl
noncomputable def r84_8 : Code := navF Try.f84 [1, 1, 1, 0]
noncomputable def o84_8 : List Oper := [sop (some 17) (.move (.tmp 3)) none,
    sop (some 2) (.assign (.tmp 17)) none]
theorem xr84_8 : Xr 84 18 r84_8 o84_8 [] := execI_reg' (by kernel_rfl)
noncomputable def b84 : Code := (.seq r84_0 (.seq r84_1 (.seq (.seq r84_2 (.block 0 (.loop l84_0))) (.seq r84_8 .ret))))
theorem body84 : Try.f84.body = some b84 := by kernel_rfl
theorem fn84 : E.fn 84 = some Try.f84 := by kernel_rfl
theorem run84 (args : List D) (h : H) (hl : args.length ≤ 18) : bodyI E 84 args h = resOf E [(.tmp 2)] (execI E 84 18 b84 ⟨argA args, h⟩) := bodyI_res fn84 body84 rfl rfl args h hl

/-! ### 59: gauntlet/equals.both -/
noncomputable def r59_0 : Code := navF Try.f59 [0]
noncomputable def o59_0 : List Oper := [sop (some 2) (.box 34 (.tmp 0)) none,
    sop (some 3) (.box 34 (.tmp 1)) none,
    sop (some 4) (.assign (.const (.int .i64 0))) none]
theorem xr59_0 : Xr 59 22 r59_0 o59_0 [] := execI_reg' (by kernel_rfl)
noncomputable def r59_1 : Code := navF Try.f59 [1, 0]
noncomputable def o59_1 : List Oper := [sop (some 6) (.load 34 (.tmp 2)) none,
    sop (some 7) (.call { callee := (.value (.func 85)), args := #[(.tmp 6)], argTypes := #[34] }) none,
    sop (some 8) (.load 34 (.tmp 3)) none,
    sop (some 9) (.call { callee := (.value (.func 85)), args := #[(.tmp 8)], argTypes := #[34] }) none,
    sop (some 10) (.buildSlice 160 2 #[(0, (.tmp 7)), (1, (.tmp 9))]) none,
    sop (some 11) (.call { callee := (.value (.func 84)), args := #[(.tmp 10)], argTypes := #[160] }) none,
    sop (some 5) (.assign (.tmp 11)) none]
theorem xr59_1 : Xr 59 22 r59_1 o59_1 [(0, 2), (1, 2)] := execI_reg' (by kernel_rfl)
noncomputable def r59_2 : Code := navF Try.f59 [1, 1, 0, 0]
noncomputable def o59_2 : List Oper := [sop (some 12) (.move (.tmp 5)) none,
    sop (some 13) (.binOp .eql 40 (.tmp 12) (.const (.int .i64 0)) 40) none,
    sop (some 14) (.move (.tmp 13)) none,
    sop (some 15) (.fieldAddr 34 (.tmp 2) 0) (some (2, true)),
    sop (some 16) (.load 3 (.tmp 15)) (some (2, true)),
    sop (some 17) (.fieldAddr 34 (.tmp 3) 0) (some (2, true)),
    sop (some 18) (.load 3 (.tmp 17)) (some (2, true)),
    sop (some 19) (.binOp .neq 3 (.tmp 16) (.tmp 18) 3) (some (2, true)),
    sop (some 20) (.pick (.tmp 14) (.tmp 19) (.const (.bool false))) none]
theorem xr59_2 : Xr 59 22 r59_2 o59_2 [] := execI_reg' (by kernel_rfl)
noncomputable def r59_3 : Code := navF Try.f59 [1, 1, 0, 1, 0]
noncomputable def o59_3 : List Oper := [sop (some 5) (.assign (.const (.int .i64 5))) none]
theorem xr59_3 : Xr 59 22 r59_3 o59_3 [] := execI_reg' (by kernel_rfl)
noncomputable def r59_4 : Code := navF Try.f59 [1, 1, 1, 0]
noncomputable def o59_4 : List Oper := [sop (some 21) (.move (.tmp 5)) none,
    sop (some 4) (.assign (.tmp 21)) none]
theorem xr59_4 : Xr 59 22 r59_4 o59_4 [] := execI_reg' (by kernel_rfl)
noncomputable def b59 : Code := (.seq r59_0 (.seq r59_1 (.seq (.seq r59_2 (.cond (.tmp 20) r59_3 .skip)) (.seq r59_4 .ret))))
theorem body59 : Try.f59.body = some b59 := by kernel_rfl
theorem fn59 : E.fn 59 = some Try.f59 := by kernel_rfl
theorem run59 (args : List D) (h : H) (hl : args.length ≤ 22) : bodyI E 59 args h = resOf E [(.tmp 4)] (execI E 59 22 b59 ⟨argA args, h⟩) := bodyI_res fn59 body59 rfl rfl args h hl
end Go.Eng.E3

namespace Go.Eng.E3
open Go Go.Eng Go.Proofs
set_option maxRecDepth 100000
attribute [local simp] execR runOps stepOp wantedD evalOp opd upd St.put Eff.apply upds looseOk FP.free FP.idle apart Eff.fp ofVal loadD storeD partD setPart indexAddrD isShift arith unD callOp mapO D.okc pickD buildable buildD placeD convD
set_option linter.unusedSimpArgs false
set_option maxHeartbeats 1000000

theorem spec135 : bodyR 135 [] = some (.agg [.int .i64 (-1), .int .i64 (-1)]) := by
  refine bodyR_V (run135 _ _ (by simp)) ?_
  unfold b135
  refine .then xr135_0 (by simp [o135_0, builtinD, lenD, pD, argA]; rfl) ?_
  refine .then xr135_1 (by simp [o135_1, builtinD, lenD, pD, argA, Array.toList, buildable, buildD, placeD]; rfl) ?_
  refine .ret ⟨_, by simp [resultsD, mapO, resultD, upd, loadD, partD]; rfl, by simp [snap, snapDepth, mapK]⟩

theorem call135 (h : H) : callI E (.fn 135 []) [] h = some (.agg [.int .i64 (-1), .int .i64 (-1)], h, {}) :=
  call_pure (xs := []) (by decide) rfl spec135

theorem spec108 {m : M} {e : Int × Int} (_hm : m.rows.length < 2 ^ 62) (he : EdgeOk m e) : bodyR 108 [encM m, pD e] = some (.bool true) := by
  refine bodyR_V (run108 _ _ (by simp)) ?_
  unfold b108
  refine .then xr108_0 (by simp [o108_0, builtinD, lenD, pD, argA, encM]; rfl) ?_
  rcases he with rfl | ⟨h1, h2, h3, h4⟩
  · refine .then xr108_1 (by simp [o108_1, builtinD, lenD, pD, argA, encM, call135]; rfl) ?_
    refine .ret ⟨_, by simp [resultsD, mapO, resultD, upd, loadD, partD]; rfl, by simp [snap, snapDepth, mapK]⟩
  · have hne : ¬ (e.1 = -1 ∧ e.2 = -1) := by omega
    have hne1 : ¬ (e.1 = -1) := by omega
    refine .then xr108_1 (by simp [o108_1, builtinD, lenD, pD, argA, encM, call135, h1, h2, h3, h4, hne, hne1]; rfl) ?_
    refine .ret ⟨_, by simp [resultsD, mapO, resultD, upd, loadD, partD]; rfl, by simp [snap, snapDepth, mapK]⟩

theorem call108 {m : M} {e : Int × Int} (hm : m.rows.length < 2 ^ 62) (he : EdgeOk m e) (h : H) : callI E (.fn 108 []) [.agg [.int .i64 m.ins, .int .i64 m.outs, .frz (m.rows.map rowD) .unk], .agg [.int .i64 e.1, .int .i64 e.2]] h = some (.bool true, h, {}) :=
  call_pure (by decide) (snaps2 (snap_encM _ _ 4 m) (snap_pD _ _ 7 e)) (spec108 hm he)

theorem spec107 {m : M} {e : Int × Int} (hm : m.rows.length < 2 ^ 62) (he : EdgeOk m e) : bodyR 107 [pD e, .iref (encM m)] = some (.bool false) := by
  refine bodyR_V (run107 _ _ (by simp)) ?_
  unfold b107
  refine .then xr107_0 (by simp [o107_0, builtinD, lenD, pD, argA]; rfl) ?_
  refine .then xr107_1 (by simp [o107_1, builtinD, lenD, pD, argA, encM, call108 hm he]; rfl) ?_
  refine .ret ⟨_, by simp [resultsD, mapO, resultD, upd]; rfl, by simp [snap, snapDepth]⟩

theorem call107 {m : M} {e : Int × Int} (hm : m.rows.length < 2 ^ 62) (he : EdgeOk m e) (h : H) : callI E (.fn 107 [.iref (encM m)]) [.agg [.int .i64 e.1, .int .i64 e.2]] h = some (.bool false, h, {}) :=
  call_cap (ks := []) (by decide) (snaps2 (snap_pD _ _ 7 e) (snap_iref _ _ 8 (snap_encM _ _ 3 m))) (spec107 hm he) (fun h => by cases h)

structure I134 (m : M) (row : List (Int × Int)) (tk : Tok) (k : Nat) (s : St) : Prop where
  le : k ≤ row.length
  h0 : s.A 0 = .frz (row.map pD) tk
  h1 : s.A 1 = .fn 107 [.iref (encM m)]
  h7 : s.A 7 = .int .i64 row.length
  h8 : s.A 8 = .int .i64 ((row.length - k : Nat) : Int)

theorem spec134 {m : M} {row : List (Int × Int)} (hm : m.rows.length < 2 ^ 62) (hL : row.length < 2 ^ 62) (he : ∀ e ∈ row, EdgeOk m e) : bodyR 134 [.frz (row.map pD) .unk, .fn 107 [.iref (encM m)]] = some (.int .i64 (-1)) := by
  refine bodyR_V (run134 _ _ (by simp)) ?_
  unfold b134
  refine .then xr134_0 (by simp [o134_0, builtinD, lenD, pD, argA]; rfl) ?_
  refine .assoc (.then xr134_1 (by simp [o134_1, builtinD, lenD, pD, argA]; rfl) ?_)
  refine .seq (.block (V.count (I134 m row .unk) ?_ ?_ row.length _ ⟨Nat.le_refl _, by simp [upd, argA], by simp [upd, argA], by simp [upd], by simp [upd]⟩))
  · rintro k ⟨A, h⟩ ⟨le, h0, h1, h7, h8⟩
    have hlt : row.length - (k + 1) < row.length := by omega
    generalize hi : row.length - (k + 1) = i at *
    have hk : row.length - k = i + 1 := by omega
    have hw : IntKind.i64.wrap ((i : Int) + 1) = ((i + 1 : Nat) : Int) := by rw [wrap_id] <;> omega
    have hei := he row[i] (List.getElem_mem hlt)
    rw [cl134_0]
    simp only at h0 h1 h7 h8
    refine .then xr134_2 (by simp [o134_2, builtinD, lenD, pD, argA, h7, h8]; rfl) ?_
    refine .head (by simp [opd, upd]; rfl) (fun _ => ?_) (fun hf => by simp [hlt] at hf)
    refine .seq (.block (.then xr134_3 (by simp [o134_3, builtinD, lenD, pD, argA, h8]; rfl) ?_))
    refine .then xr134_4 (by simp [o134_4, builtinD, lenD, pD, argA, h0, h1, h8, hlt, call107 hm hei]; rfl) ?_
    refine .cond (by simp [opd, upd]; rfl) (fun ht => by cases ht) (fun hf => .skip ?_)
    refine .reg xr134_6 (by simp [o134_6, builtinD, lenD, pD, argA, h8]; rfl) ⟨by omega, ?_, ?_, ?_, ?_⟩
    · simp [upd, h0]
    · simp [upd, h1]
    · simp [upd, h7]
    · simp [upd, hk, hw]
  · rintro ⟨A, h⟩ ⟨le, h0, h1, h7, h8⟩
    simp only at h0 h1 h7 h8
    rw [cl134_0]
    refine .then xr134_2 (by simp [o134_2, builtinD, lenD, pD, argA, h7, h8]; rfl) ?_
    refine .head (by simp [opd, upd]; rfl) (fun hf => by simp at hf) (fun _ => ?_)
    exact .then xr134_7 (by simp [o134_7, builtinD, lenD, pD, argA]; rfl) (.ret ⟨_, by simp [resultsD, mapO, resultD, upd]; rfl, by simp [snap, snapDepth]⟩)

theorem call134 {m : M} {row : List (Int × Int)} (hm : m.rows.length < 2 ^ 62) (hL : row.length < 2 ^ 62) (he : ∀ e ∈ row, EdgeOk m e) (h : H) : callI E (.fn 134 []) [.frz (row.map pD) .unk, .fn 107 [.iref (encM m)]] h = some (.int .i64 (-1), h, {}) :=
  call_pure (by decide) (snaps2 (snap_rowD _ _ 6 row) (snap_fn1 _ _ 8 (snap_iref _ _ 7 (snap_encM _ _ 2 m)))) (spec134 hm hL he)

theorem spec106 {m : M} {row : List (Int × Int)} (hm : m.rows.length < 2 ^ 62) (hL : row.length < 2 ^ 62) (he : ∀ e ∈ row, EdgeOk m e) : bodyR 106 [.frz (row.map pD) .unk, .fn 107 [.iref (encM m)]] = some (.bool false) := by
  refine bodyR_V (run106 _ _ (by simp)) ?_
  unfold b106
  refine .then xr106_0 (by simp [o106_0, builtinD, lenD, pD, argA]; rfl) ?_
  refine .then xr106_1 (by simp [o106_1, builtinD, lenD, pD, argA, call134 hm hL he]; rfl) ?_
  refine .ret ⟨_, by simp [resultsD, mapO, resultD, upd]; rfl, by simp [snap, snapDepth]⟩

theorem call106 {m : M} {row : List (Int × Int)} (hm : m.rows.length < 2 ^ 62) (hL : row.length < 2 ^ 62) (he : ∀ e ∈ row, EdgeOk m e) {h : H} {b : Nat} (hb : h.blk b = .live 3 [encM m]) : callI E (.fn 106 []) [.frz (row.map pD) .unk, .fn 107 [.ptr b 0 0]] h = some (.bool false, h, { rd := [b] }) :=
  call_cap (ks := [b]) (by decide) (by
    simp only [List.append_nil, mapK]
    rw [show snap (E.pol.args 106) h.blk snapDepth (.frz (row.map pD) .unk) = some (.frz (row.map pD) .unk, []) from snap_rowD _ _ 6 row, show snap (E.pol.args 106) h.blk snapDepth (.fn 107 [.ptr b 0 0]) = some (.fn 107 [.iref (encM m)], [b]) from snap_fn1 _ _ 8 (snap_ptr _ _ 7 hb (snap_encM _ _ 2 m))]
    rfl) (spec106 hm hL he) (fun _ => rfl)

structure I85 (m : M) (k : Nat) (s : St) : Prop where
  le : k ≤ m.rows.length
  h1 : s.A 1 = .ptr 0 0 0
  h34 : s.A 34 = .frz (m.rows.map rowD) .unk
  h35 : s.A 35 = .int .i64 m.rows.length
  h36 : s.A 36 = .int .i64 ((m.rows.length - k : Nat) : Int)
  hb : s.h.blk 0 = .live 3 [encM m]
  hn : 0 < s.h.next

theorem spec85 {m : M} (hv : Valid m) : bodyR 85 [encM m] = some (.int .i64 0) := by
  have i1 := hv.i1
  have i2 := hv.i2
  have o1 := hv.o1
  have o2 := hv.o2
  have r1 := hv.r1
  have r2 := hv.r2
  have q1 : ¬ (16 : Int) < m.ins := by omega
  have q2 : ¬ (16 : Int) < m.outs := by omega
  have q3 : ¬ (64 : Int) < m.rows.length := by omega
  have q4 : ¬ (m.ins : Int) < 1 := by omega
  have q5 : ¬ (m.outs : Int) < 1 := by omega
  have q6 : ¬ (m.rows.length : Int) < 1 := by omega
  refine bodyR_V (run85 _ _ (by simp)) ?_
  unfold b85
  refine .then xr85_0 (by simp [o85_0, builtinD, lenD, pD, argA, encM]; rfl) ?_
  refine .assoc (.then xr85_1 (by simp [o85_1, builtinD, lenD, pD, argA, q1, q2, q3]; rfl) ?_)
  refine .seq (.cond (by simp [opd, upd]; rfl) (fun ht => by simp at ht) (fun _ => .skip ?_))
  refine .assoc (.then xr85_3 (by simp [o85_3, builtinD, lenD, pD, argA, q4, q5, q6]; rfl) ?_)
  refine .seq (.cond (by simp [opd, upd]; rfl) (fun ht => by simp at ht) (fun _ => .skip ?_))
  refine .assoc (.then xr85_5 (by simp [o85_5, builtinD, lenD, pD, argA]; rfl) ?_)
  refine .seq (.block (V.count (I85 m) ?_ ?_ m.rows.length _ ⟨Nat.le_refl _, by simp [upd, argA], by simp [upd, argA], by simp [upd], by simp [upd], by simp [upd, encM], by simp⟩))
  · rintro k ⟨A, h⟩ ⟨le, h1, h34, h35, h36, hb, hn⟩
    have hlt : m.rows.length - (k + 1) < m.rows.length := by omega
    generalize hi : m.rows.length - (k + 1) = i at *
    have hk : m.rows.length - k = i + 1 := by omega
    have hw : IntKind.i64.wrap ((i : Int) + 1) = ((i + 1 : Nat) : Int) := by rw [wrap_id] <;> omega
    have hlen : m.rows[i].length = m.ins := hv.len _ (List.getElem_mem hlt)
    have hei := hv.ok _ (List.getElem_mem hlt)
    rw [cl85_0]
    simp only at h1 h34 h35 h36 hb hn
    refine .then xr85_6 (by simp [o85_6, builtinD, lenD, pD, argA, h35, h36]; rfl) ?_
    refine .head (by simp [opd, upd]; rfl) (fun _ => ?_) (fun hf => by simp [hlt] at hf)
    refine .seq (.block (.then xr85_7 (by simp [o85_7, builtinD, lenD, pD, argA, h34, h36, hlt, rowD]; rfl) ?_))
    have c106 : ∀ h' : H, h'.blk 0 = h.blk 0 → callI E (.fn 106 []) [.frz (m.rows[i].map pD) .unk, .fn 107 [.ptr 0 0 0]] h' = some (.bool false, h', { rd := [0] }) := fun h' e => call106 (by omega) (by omega) hei (e.trans hb)
    refine .then xr85_8 (by simp [o85_8, builtinD, lenD, pD, argA, h1, hb, encM, hlen, c106, List.toList_toArray]; rfl) ?_
    refine .cond (by simp [opd, upd]; rfl) (fun ht => by cases ht) (fun hf => .skip ?_)
    refine .reg xr85_10 (by simp [o85_10, builtinD, lenD, pD, argA, h36]; rfl) ⟨by omega, ?_, ?_, ?_, ?_, ?_, ?_⟩
    · simp [upd, h1]
    · simp [upd, h34]
    · simp [upd, h35]
    · simp [upd, hk, hw]
    · simpa [upds] using hb
    · simp
  · rintro ⟨A, h⟩ ⟨le, h1, h34, h35, h36, hb, hn⟩
    simp only at h1 h34 h35 h36 hb hn
    rw [cl85_0]
    refine .then xr85_6 (by simp [o85_6, builtinD, lenD, pD, argA, h35, h36]; rfl) ?_
    refine .head (by simp [opd, upd]; rfl) (fun hf => by simp at hf) (fun _ => ?_)
    exact .then xr85_11 (by simp [o85_11, builtinD, lenD, pD, argA]; rfl) (.ret ⟨_, by simp [resultsD, mapO, resultD, upd]; rfl, by simp [snap, snapDepth]⟩)

theorem call85 {m : M} (hv : Valid m) (h : H) : callI E (.fn 85 []) [.agg [.int .i64 m.ins, .int .i64 m.outs, .frz (m.rows.map rowD) .unk]] h = some (.int .i64 0, h, {}) :=
  call_pure (by decide) (snaps1 (snap_encM _ _ 4 m)) (spec85 hv)
end Go.Eng.E3

namespace Go.Eng.E3
open Go Go.Eng Go.Proofs
set_option maxRecDepth 100000

/-! ### 111: slices.Index[[][2]int,[2]int] -/
noncomputable def r111_0 : Code := navF Try.f111 [0]
noncomputable def o111_0 : List Oper := [sop (some 3) (.box 105 (.tmp 1)) none,
    sop (some 4) (.assign (.const (.int .i64 0))) none]
theorem xr111_0 : Xr 111 19 r111_0 o111_0 [] := execI_reg' (by kernel_rfl)
noncomputable def r111_1 : Code := navF Try.f111 [1, 0, 0]
noncomputable def o111_1 : List Oper := [sop (some 6) (.move (.tmp 0)) none,
    sop (some 7) (.call { callee := (.builtin .len), args := #[(.tmp 6)], argTypes := #[76] }) none,
    sop (some 8) (.move (.const (.int .i64 0))) none]
theorem xr111_1 : Xr 111 19 r111_1 o111_1 [] := execI_reg' (by kernel_rfl)
noncomputable def l111_0 : Code := navF Try.f111 [1, 0, 1, 0, 0]
noncomputable def r111_2 : Code := navF Try.f111 [1, 0, 1, 0, 0, 0]
noncomputable def o111_2 : List Oper := [sop (some 9) (.binOp .lss 3 (.tmp 8) (.tmp 7) 3) none]
theorem xr111_2 : Xr 111 19 r111_2 o111_2 [] := execI_reg' (by kernel_rfl)
noncomputable def r111_3 : Code := navF Try.f111 [1, 0, 1, 0, 0, 1, 1, 0, 0, 0]
noncomputable def o111_3 : List Oper := [sop (some 10) (.move (.tmp 8)) none,
    sop (some 5) (.assign (.tmp 10)) none]
theorem xr111_3 : Xr 111 19 r111_3 o111_3 [] := execI_reg' (by kernel_rfl)
noncomputable def r111_4 : Code := navF Try.f111 [1, 0, 1, 0, 0, 1, 1, 0, 0, 1, 0]
noncomputable def o111_4 : List Oper := [sop (some 11) (.load 105 (.tmp 3)) none,
    sop (some 12) (.move (.tmp 0)) none,
    sop (some 13) (.move (.tmp 5)) none,
    sop (some 14) (.indexAddr 76 (.tmp 12) (.tmp 13)) none,
    sop (some 15) (.load 105 (.tmp 14)) none,
    sop (some 16) (.binOp .eql 105 (.tmp 11) (.tmp 15) 105) none]
theorem xr111_4 : Xr 111 19 r111_4 o111_4 [(0, 4)] := execI_reg' (by kernel_rfl)
noncomputable def r111_5 : Code := navF Try.f111 [1, 0, 1, 0, 0, 1, 1, 0, 0, 1, 1, 0, 0]
noncomputable def o111_5 : List Oper := [sop (some 17) (.move (.tmp 5)) none,
    sop (some 4) (.assign (.tmp 17)) none]
theorem xr111_5 : Xr 111 19 r111_5 o111_5 [] := execI_reg' (by kernel_rfl)
noncomputable def r111_6 : Code := navF Try.f111 [1, 0, 1, 0, 0, 1, 1, 1]
noncomputable def o111_6 : List Oper := [sop (some 18) (.binOp .add 3 (.tmp 8) (.const (.int .i64 1)) 3) none,
    sop (some 8) (.move (.tmp 18)) none]
theorem xr111_6 : Xr 111 19 r111_6 o111_6 [] := execI_reg' (by kernel_rfl)
theorem cl111_0 : l111_0 = (.seq r111_2 (.seq (.cond (.tmp 9) .skip (.exit 0)) (.seq (.block 1 (.seq r111_3 (.seq r111_4 (.cond (.tmp 16) (.seq r111_5 .ret) .skip)))) r111_6))) := by kernel_rfl
noncomputable def r111_7 : Code := navF Try.f111 [1, 1, 0]
noncomputable def o111_7 : List Oper := [sop (some 4) (.assign (.const (.int .i64 (-1)))) none]
theorem xr111_7 : Xr 111 19 r111_7 o111_7 [] := execI_reg' (by kernel_rfl)
noncomputable def b111 : Code := (.seq r111_0 (.seq (.seq r111_1 (.block 0 (.loop l111_0))) (.seq r111_7 .ret)))
theorem body111 : Try.f111.body = some b111 := by kernel_rfl
theorem fn111 : E.fn 111 = some Try.f111 := by kernel_rfl
theorem run111 (args : List D) (h : H) (hl : args.length ≤ 19) : bodyI E 111 args h = resOf E [(.tmp 4)] (execI E 111 19 b111 ⟨argA args, h⟩) := bodyI_res fn111 body111 rfl rfl args h hl

/-! ### 88: slices.Contains[[][2]int,[2]int] -/
noncomputable def r88_0 : Code := navF Try.f88 [0]
noncomputable def o88_0 : List Oper := [sop (some 3) (.box 105 (.tmp 1)) none,
    sop (some 4) (.assign (.const (.bool false))) none]
theorem xr88_0 : Xr 88 9 r88_0 o88_0 [] := execI_reg' (by kernel_rfl)
noncomputable def r88_1 : Code := navF Try.f88 [1, 0]
noncomputable def o88_1 : List Oper := [sop (some 5) (.move (.tmp 0)) none,
    sop (some 6) (.load 105 (.tmp 3)) none,
    sop (some 7) (.call { callee := (.value (.func 111)), args := #[(.tmp 5), (.tmp 6)], argTypes := #[76, 105] }) none,
    sop (some 8) (.binOp .geq 3 (.tmp 7) (.const (.int .i64 0)) 3) none,
    sop (some 4) (.assign (.tmp 8)) none]
theorem xr88_1 : Xr 88 9 r88_1 o88_1 [] := execI_reg' (by kernel_rfl)
noncomputable def b88 : Code := (.seq r88_0 (.seq r88_1 .ret))
theorem body88 : Try.f88.body = some b88 := by kernel_rfl
theorem fn88 : E.fn 88 = some Try.f88 := by kernel_rfl
theorem run88 (args : List D) (h : H) (hl : args.length ≤ 9) : bodyI E 88 args h = resOf E [(.tmp 4)] (execI E 88 9 b88 ⟨argA args, h⟩) := bodyI_res fn88 body88 rfl rfl args h hl
end Go.Eng.E3

namespace Go.Eng.E3
open Go Go.Eng Go.Proofs
set_option maxRecDepth 100000
set_option linter.unusedSimpArgs false
def idx : List (Int × Int) → Int × Int → Option Nat
  | [], _ => none
  | p :: r, q => if q.1 = p.1 ∧ q.2 = p.2 then some 0 else (idx r q).map (· + 1)

def idxI (ps : List (Int × Int)) (q : Int × Int) : Int := match idx ps q with | some j => (j : Nat) | none => -1

structure I111 (ps : List (Int × Int)) (q : Int × Int) (tk : Tok) (b : Nat) (k : Nat) (s : St) : Prop where
  le : k ≤ ps.length
  h0 : s.A 0 = .frz (ps.map pD) tk
  h7 : s.A 7 = .int .i64 ps.length
  h8 : s.A 8 = .int .i64 ((ps.length - k : Nat) : Int)
  h3 : s.A 3 = .ptr b 0 0
  hb : s.h.blk b = .live 2 [pD q]
  no : idx ps q = (idx (ps.drop (ps.length - k)) q).map (· + (ps.length - k))

set_option maxHeartbeats 1000000
theorem loop111 {ps : List (Int × Int)} {q : Int × Int} {tk : Tok} {b : Nat} (hL : ps.length < 2 ^ 62) {Q : Po} (hr : ∀ s j, idx ps q = some j → s.A 4 = .int .i64 (j : Nat) → Q.r s) (hx : ∀ s, idx ps q = none → Q.x 0 s) (k : Nat) (s : St) (hI : I111 ps q tk b k s) :
    V E 111 19 (.loop l111_0) s Q := by
  refine V.count (I111 ps q tk b) ?_ ?_ k s hI
  · rintro k ⟨A, h⟩ ⟨le, h0, h7, h8, h3, hb, no⟩
    have hlt : ps.length - (k + 1) < ps.length := by omega
    generalize hi : ps.length - (k + 1) = i at *
    have hk : ps.length - k = i + 1 := by omega
    have hd : ps.drop i = ps[i] :: ps.drop (i + 1) := List.drop_eq_getElem_cons hlt
    have hw : IntKind.i64.wrap ((i : Int) + 1) = ((i + 1 : Nat) : Int) := by rw [wrap_id] <;> omega
    rw [cl111_0]
    simp only at h0 h7 h8 h3 hb
    refine .then xr111_2 (by simp [execR, o111_2, runOps, stepOp, wantedD, evalOp, opd, upd, St.put, Eff.apply, upds, h7, h8, binD, isShift, arith, looseOk]; rfl) ?_
    refine .head (by simp [opd, upd]; rfl) (fun _ => ?_) (fun hf => by simp [hlt] at hf)
    refine .seq (.block (.then xr111_3 (by simp [execR, o111_3, runOps, stepOp, wantedD, evalOp, opd, upd, St.put, Eff.apply, upds, h7, h8, looseOk]; rfl) ?_))
    refine .then xr111_4 (by simp [execR, o111_4, runOps, stepOp, wantedD, evalOp, opd, upd, St.put, Eff.apply, upds, h0, h3, hb, h8, looseOk, loadD, pD, partD, indexAddrD, FP.free, FP.idle, apart, Eff.fp, hlt]; rfl) ?_
    refine .cond (by simp [opd, upd]; rfl) (fun ht => ?_) (fun hf => .skip ?_)
    · refine .then xr111_5 (by simp [execR, o111_5, runOps, stepOp, wantedD, evalOp, opd, upd, St.put, Eff.apply, upds, looseOk]; rfl) (.ret (hr _ i ?_ (by simp [upd])))
      rw [no, hd, idx, if_pos (by simpa using ht)]; simp
    · refine .reg xr111_6 (by simp [execR, o111_6, runOps, stepOp, wantedD, evalOp, opd, upd, St.put, Eff.apply, upds, h8, binD, isShift, arith, looseOk]; rfl) ⟨by omega, ?_, ?_, ?_, ?_, ?_, ?_⟩
      · simp [upd, h0]
      · simp [upd, h7]
      · simp [upd, hk, hw]
      · simp [upd, h3]
      · simpa [upds] using hb
      · rw [no, hd, idx, if_neg (by simpa using hf), hk]
        cases idx (ps.drop (i + 1)) q <;> simp; omega
  · rintro ⟨A, h⟩ ⟨le, h0, h7, h8, h3, hb, no⟩
    simp only at h0 h7 h8 h3 hb
    rw [cl111_0]
    refine .then xr111_2 (by simp [execR, o111_2, runOps, stepOp, wantedD, evalOp, opd, upd, St.put, Eff.apply, upds, h7, h8, binD, isShift, arith, looseOk]; rfl) ?_
    refine .head (by simp [opd, upd]; rfl) (fun hf => by simp at hf) (fun _ => hx _ ?_)
    rw [no]; simp [idx]

theorem spec111 {ps : List (Int × Int)} {q : Int × Int} {tk : Tok} (hL : ps.length < 2 ^ 62) : bodyR 111 [.frz (ps.map pD) tk, pD q] = some (.int .i64 (idxI ps q)) := by
  refine bodyR_V (run111 _ _ (by simp)) ?_
  unfold b111
  refine .then xr111_0 (by simp [execR, o111_0, runOps, stepOp, wantedD, evalOp, opd, upd, St.put, Eff.apply, upds, argA, looseOk, pD, D.okc, ofVal]; rfl) ?_
  refine .assoc (.then xr111_1 (by simp [execR, o111_1, runOps, stepOp, wantedD, evalOp, opd, upd, St.put, Eff.apply, upds, argA, looseOk, callOp, mapO, builtinD, lenD, ofVal]; rfl) ?_)
  refine .seq (.block (loop111 (q := q) (tk := tk) (b := 0) hL ?_ ?_ ps.length _ ⟨Nat.le_refl _, ?_, ?_, ?_, ?_, ?_, ?_⟩))
  · intro s j hj h4
    exact ⟨_, by simp [resultsD, mapO, resultD, h4]; rfl, by simp [snap, snapDepth, idxI, hj]⟩
  · intro s hn
    refine .then xr111_7 (by simp [execR, o111_7, runOps, stepOp, wantedD, evalOp, opd, upd, St.put, Eff.apply, upds, looseOk, ofVal]; rfl) (.ret ⟨_, by simp [resultsD, mapO, resultD, upd]; rfl, by simp [snap, snapDepth, idxI, hn]⟩)
  · simp [upd, argA]
  · simp [upd]
  · simp [upd]
  · simp [upd]
  · simp [upd, pD]
  · simp
end Go.Eng.E3

namespace Go.Eng.E3
open Go Go.Eng Go.Proofs
set_option maxRecDepth 100000
attribute [local simp] execR runOps stepOp wantedD evalOp opd upd St.put Eff.apply upds looseOk FP.free FP.idle apart Eff.fp ofVal loadD storeD partD setPart indexAddrD isShift arith unD callOp mapO D.okc pickD buildable buildD placeD convD
set_option linter.unusedSimpArgs false
set_option maxHeartbeats 2000000

theorem call74 {m : M} (hv : Valid m) {K : Nat} (hK : K < 2 ^ 62) (h : H) : callI E (.fn 74 []) [.agg [.int .i64 m.ins, .int .i64 m.outs, .frz (m.rows.map rowD) .unk], .int .i64 K] h = some (.frz ((markN m K).map boolRow) .unk, h, {}) :=
  call_pure (by decide) (snaps2 (snap_encM _ _ 4 m) rfl) (spec74 hv hK)

/-- The classes of the states. -/
def partM' (m : M) (K : Nat) : List Int := (partN (markN m K) m.rows.length).1

theorem call122 {m : M} (hv : Valid m) {K : Nat} (h : H) : callI E (.fn 122 []) [.frz ((markN m K).map boolRow) .unk] h = some (.frz ((partM' m K).map (D.int .i64)) .unk, h, {}) := by
  have hsq := sq_mark m K
  have hl := hsq.l
  have hb := spec122 (mk := markN m K) (by rw [hl]; exact hsq) (by rw [hl]; exact hv.r2)
  rw [hl] at hb
  have ht : tkA' (markN m K) = .unk := by
    have := hv.r1
    cases hm : markN m K with
    | nil => rw [hm] at hl; simp at hl; omega
    | cons _ _ => rfl
  rw [ht] at hb
  exact call_pure (by decide) (snaps1 (snap_mark _ _ 6 (markN m K))) hb

theorem spec101 {m : M} (hv : Valid m) {K : Nat} (hK : K < 2 ^ 62) : bodyR 101 [encM m, .int .i64 K] = some (.frz ((partM' m K).map (D.int .i64)) .unk) := by
  refine bodyR_V (run101 _ _ (by simp)) ?_
  unfold b101
  refine .then xr101_0 (by simp [o101_0, builtinD, lenD, pD, argA, encM]; rfl) ?_
  refine .then xr101_1 (by simp [o101_1, builtinD, lenD, pD, argA, call74 hv hK, call122 hv]; rfl) (.ret ⟨_, by simp [resultsD, mapO, resultD, upd]; rfl, ?_⟩)
  rw [show snapDepth = 7 + 2 from rfl, snap_ints]
  rfl

theorem spec77 {m : M} (hv : Valid m) : bodyR 77 [encM m] = some (.frz ((partM' m m.rows.length).map (D.int .i64)) .unk) := by
  have hK : m.rows.length < 2 ^ 62 := by have := hv.r2; omega
  have call101 : ∀ h, callI E (.fn 101 []) [.agg [.int .i64 m.ins, .int .i64 m.outs, .frz (m.rows.map rowD) .unk], .int .i64 m.rows.length] h = some (.frz ((partM' m m.rows.length).map (D.int .i64)) .unk, h, {}) := fun h =>
    call_pure (by decide) (snaps2 (snap_encM _ _ 4 m) rfl) (spec101 hv hK)
  refine bodyR_V (run77 _ _ (by simp)) ?_
  unfold b77
  refine .then xr77_0 (by simp [o77_0, builtinD, lenD, pD, argA, encM]; rfl) ?_
  refine .then xr77_1 (by simp [o77_1, builtinD, lenD, pD, argA, call101]; rfl) (.ret ⟨_, by simp [resultsD, mapO, resultD, upd]; rfl, ?_⟩)
  rw [show snapDepth = 7 + 2 from rfl, snap_ints]
  rfl

theorem call77 {m : M} (hv : Valid m) (h : H) : callI E (.fn 77 []) [.agg [.int .i64 m.ins, .int .i64 m.outs, .frz (m.rows.map rowD) .unk]] h = some (.frz ((partM' m m.rows.length).map (D.int .i64)) .unk, h, {}) :=
  call_pure (by decide) (snaps1 (snap_encM _ _ 4 m)) (spec77 hv)

/-! ### slices.Contains, cmp.Or, equals.both -/

theorem call111 {ps : List (Int × Int)} {q : Int × Int} (hL : ps.length < 2 ^ 62) (h : H) : callI E (.fn 111 []) [.frz (ps.map pD) .unk, .agg [.int .i64 q.1, .int .i64 q.2]] h = some (.int .i64 (idxI ps q), h, {}) :=
  call_pure (by decide) (snaps2 (snap_rowD _ _ 6 ps) (snap_pD _ _ 7 q)) (spec111 hL)

theorem idx_mem (q : Int × Int) : ∀ ps : List (Int × Int), (idx ps q).isSome = decide (q ∈ ps)
  | [] => by simp [idx]
  | p :: r => by
    rw [idx]
    by_cases h : q.1 = p.1 ∧ q.2 = p.2
    · have : q = p := Prod.ext h.1 h.2
      simp [h, this]
    · have : q ≠ p := fun e => h (by rw [e]; exact ⟨rfl, rfl⟩)
      rw [if_neg h, Option.isSome_map, idx_mem q r]
      simp [this]

theorem spec88 {ps : List (Int × Int)} {q : Int × Int} (hL : ps.length < 2 ^ 62) : bodyR 88 [.frz (ps.map pD) .unk, pD q] = some (.bool (decide (q ∈ ps))) := by
  have hd : decide (0 ≤ idxI ps q) = decide (q ∈ ps) := by
    rw [← idx_mem]
    unfold idxI
    cases idx ps q <;> simp
  refine bodyR_V (run88 _ _ (by simp)) ?_
  unfold b88
  refine .then xr88_0 (by simp [o88_0, builtinD, lenD, pD, argA]; rfl) ?_
  refine .then xr88_1 (by simp [o88_1, builtinD, lenD, pD, argA, call111 hL, hd]; rfl) ?_
  refine .ret ⟨_, by simp [resultsD, mapO, resultD, upd]; rfl, by simp [snap, snapDepth]⟩

def isInt (z : Int) : Option (D × FH) → Bool
  | some (.int .i64 x, _) => decide (x = z)
  | _ => false
def isBool (z : Bool) : Option (D × FH) → Bool
  | some (.bool x, _) => x == z
  | _ => false
theorem run_int {X : Ext'} (hX : ∀ g m, X g = some m → ModelOk E g m) {n : Nat} {g : FuncId} {args : List D} {z : Int} (e : isInt z (bodyFF E (callF E X n) n g args FH.empty) = true) : bodyR g args = some (.int .i64 z) := by
  cases hr : bodyFF E (callF E X n) n g args FH.empty with
  | none => rw [hr] at e; cases e
  | some p =>
    obtain ⟨r, h⟩ := p
    have h2 := bodyFF_up (callF_up hX n) hr
    rw [hr] at e
    unfold isInt at e
    split at e
    · rename_i x _ heq
      cases heq
      have : x = z := of_decide_eq_true e
      subst this
      rw [FH.up_empty] at h2
      unfold bodyR
      rw [h2]
      rfl
    · cases e
theorem run_bool {X : Ext'} (hX : ∀ g m, X g = some m → ModelOk E g m) {n : Nat} {g : FuncId} {args : List D} {z : Bool} (e : isBool z (bodyFF E (callF E X n) n g args FH.empty) = true) : bodyR g args = some (.bool z) := by
  cases hr : bodyFF E (callF E X n) n g args FH.empty with
  | none => rw [hr] at e; cases e
  | some p =>
    obtain ⟨r, h⟩ := p
    have h2 := bodyFF_up (callF_up hX n) hr
    rw [hr] at e
    unfold isBool at e
    split at e
    · rename_i x _ heq
      cases heq
      have : x = z := eq_of_beq e
      subst this
      rw [FH.up_empty] at h2
      unfold bodyR
      rw [h2]
      rfl
    · cases e

theorem spec84 : bodyR 84 [.frz [.int .i64 0, .int .i64 0] .unk] = some (.int .i64 0) :=
  run_int (X := fun _ => none) (n := 20) (fun g m h => by cases h) (by kernel_rfl)

theorem call84 (h : H) (tk : Tok) : callI E (.fn 84 []) [.frz [.int .i64 0, .int .i64 0] tk] h = some (.int .i64 0, h, {}) :=
  call_pure (by decide) (by cases tk <;> rfl) spec84

theorem mu59 : E.pol.mu 59 160 = false := by decide

theorem spec59 {a b : M} (ha : Valid a) (hb : Valid b) (hi : a.ins = b.ins) : bodyR 59 [encM a, encM b] = some (.int .i64 0) := by
  refine bodyR_V (run59 _ _ (by simp)) ?_
  unfold b59
  refine .then xr59_0 (by simp [o59_0, builtinD, lenD, pD, argA, encM]; rfl) ?_
  refine .then xr59_1 (by simp [o59_1, builtinD, lenD, pD, argA, call85 ha, call85 hb, call84, mu59, show List.range 2 = [0, 1] from rfl, mapK, snapDepth, snap_int, kills]; rfl) ?_
  refine .assoc (.then xr59_2 (by simp [o59_2, builtinD, lenD, pD, argA, hi]; rfl) ?_)
  refine .seq (.cond (by simp [opd, upd]; rfl) (fun hf => by cases hf) (fun _ => .skip ?_))
  refine .then xr59_4 (by simp [o59_4, builtinD, lenD, pD, argA]; rfl) (.ret ⟨_, by simp [resultsD, mapO, resultD, upd]; rfl, by simp [snap, snapDepth]⟩)
end Go.Eng.E3

namespace Go.Eng.E3
open Go Go.Eng Go.Proofs
set_option maxRecDepth 100000
attribute [local simp] execR runOps stepOp wantedD evalOp opd upd St.put Eff.apply upds looseOk FP.free FP.idle apart Eff.fp ofVal loadD storeD partD setPart indexAddrD isShift arith unD callOp mapO D.okc pickD buildable buildD placeD convD
set_option linter.unusedSimpArgs false
set_option maxHeartbeats 2000000

def relaxM (m : M) (s : Nat) (o : List Bool) (i : Nat) : List Bool := if o.getD s false && decide (0 ≤ (edge m s i).1) then o.set (edge m s i).1.toNat true else o
def rowRel (m : M) (s : Nat) (o : List Bool) (i : Nat) : List Bool := (List.range i).foldl (relaxM m s) o
def roundRel (m : M) (o : List Bool) (s : Nat) : List Bool := (List.range s).foldl (fun o s => rowRel m s o m.ins) o
def reachN (m : M) (o : List Bool) (k : Nat) : List Bool := (List.range k).foldl (fun o _ => roundRel m o m.rows.length) o
def reachM (m : M) (from_ : Nat) : List Bool := reachN m ((List.replicate m.rows.length false).set from_ true) m.rows.length

theorem rowRel_succ (m : M) (s : Nat) (o : List Bool) (i : Nat) : rowRel m s o (i + 1) = relaxM m s (rowRel m s o i) i := by simp [rowRel, List.range_succ]
theorem roundRel_succ (m : M) (o : List Bool) (s : Nat) : roundRel m o (s + 1) = rowRel m s (roundRel m o s) m.ins := by simp [roundRel, List.range_succ]
theorem reachN_succ (m : M) (o : List Bool) (k : Nat) : reachN m o (k + 1) = roundRel m (reachN m o k) m.rows.length := by simp [reachN, List.range_succ]

structure Fx (m : M) (o : List Bool) (st : St) : Prop where
  h2 : st.A 2 = .ptr 0 0 0
  h5 : st.A 5 = .sl 5 1 0 m.rows.length true
  hb : st.h.blk 0 = .live 3 [encM m]
  hx : st.h.blk 5 = .live 1 (o.map D.bool)
  hn : 6 ≤ st.h.next
  ol : o.length = m.rows.length

theorem Fx.step {m : M} {o : List Bool} {A A' : Nat → D} {h : H} {nx : Nat} (f : Fx m o ⟨A, h⟩) (e : ∀ t, t < 6 → A' t = A t) (hn : h.next ≤ nx) : Fx m o ⟨A', ⟨nx, h.blk⟩⟩ := by
  obtain ⟨q1, q2, q3, q4, q5, q6⟩ := f
  simp only at q1 q2 q3 q4 q5
  exact ⟨(e 2 (by omega)).trans q1, (e 5 (by omega)).trans q2, q3, q4, by simp only; omega, q6⟩

structure J79c (m : M) (s r : Nat) (o : List Bool) (k : Nat) (st : St) : Prop where
  le : k ≤ m.ins
  fx : Fx m (rowRel m s o (m.ins - k)) st
  h6 : st.A 6 = .int .i64 r
  h7 : st.A 7 = .int .i64 s
  h8 : st.A 8 = .int .i64 ((m.ins - k : Nat) : Int)

theorem loop79c {m : M} (hv : Valid m) {s r : Nat} {o : List Bool} (hs : s < m.rows.length) {Q : Po} (hQ : ∀ st, J79c m s r o 0 st → Q.x 4 st) (k : Nat) (st : St) (hI : J79c m s r o k st) : V E 79 58 (.loop l79_2) st Q := by
  have i2 := hv.i2
  refine V.count (J79c m s r o) ?_ ?_ k st hI
  · rintro k ⟨A, h⟩ ⟨le, fx, h6, h7, h8⟩
    have hlt : m.ins - (k + 1) < m.ins := by omega
    generalize hi : m.ins - (k + 1) = i at *
    have hk' : m.ins - k = i + 1 := by omega
    have hw : IntKind.i64.wrap ((i : Int) + 1) = ((i + 1 : Nat) : Int) := by rw [wrap_id] <;> omega
    have hrs := rowRel_succ m s o i
    generalize rowRel m s o i = o1 at *
    have fx0 := fx
    obtain ⟨h2, h5, hb, hx, hn, ol⟩ := fx0
    have hls : i < m.rows[s].length := by rw [hv.len _ (List.getElem_mem hs)]; exact hlt
    have es : edge m s i = m.rows[s][i] := by simp [edge, hs, hls]
    have hok := hv.ok _ (List.getElem_mem hs) _ (List.getElem_mem hls)
    obtain ⟨x, hxe⟩ : ∃ x, m.rows[s][i] = x := ⟨_, rfl⟩
    rw [hxe] at es hok
    have hso : s < o1.length := by omega
    simp only at h2 h5 h6 h7 h8 hb hx hn
    rw [cl79_2]
    refine .assoc (.then xr79_10 (by simp [o79_10, builtinD, lenD, pD, argA, h2, h8, hb, encM]; rfl) ?_)
    refine .head (by simp [opd, upd]; rfl) (fun _ => ?_) (fun hf => by simp [hlt] at hf)
    have hgd : o1.getD s false = o1[s] := by simp [hso]
    refine .seq (.block (.then xr79_12 (by simp [o79_12, builtinD, lenD, pD, argA, h2, h7, h8, hb, encM, hs, hls, rowD, hxe]; rfl) ?_))
    -- behind the test
    have tail : ∀ (A2 : Nat → D) (nx : Nat) (o2 : List Bool) (blk2 : Nat → Blk) (Q : Po), h.next ≤ nx → (∀ t, t < 9 → A2 t = A t) → relaxM m s o1 i = o2 → o2.length = m.rows.length → blk2 0 = .live 3 [encM m] → blk2 5 = .live 1 (o2.map D.bool) → (∀ st, J79c m s r o k st → Q.n st) → V E 79 58 r79_11 ⟨A2, ⟨nx, blk2⟩⟩ Q := by
      intro A2 nx o2 blk2 Q hnx he hr2 hl2 hb0 hb5 hq
      have e8 := (he 8 (by omega)).trans h8
      refine .reg xr79_11 (by simp [o79_11, builtinD, lenD, pD, argA, e8]; rfl) (hq _ ⟨by omega, ⟨?_, ?_, ?_, ?_, ?_, ?_⟩, ?_, ?_, ?_⟩)
      · simp [upd, he, h2]
      · simp [upd, he, h5]
      · simpa [upds] using hb0
      · rw [hk', hrs, hr2]; simpa [upds] using hb5
      · simp; omega
      · rw [hk', hrs, hr2]; exact hl2
      · simp [upd, he, h6]
      · simp [upd, he, h7]
      · simp [upd, hk', hw]
    cases c1 : o1[s] with
    | false =>
      refine .then xr79_13 (by simp [o79_13, builtinD, lenD, pD, argA, h5, h7, hx, hso, hs, c1, ol]; rfl) ?_
      refine .cond (v := false) (by simp [opd, upd]) (fun hf => by cases hf) (fun _ => .skip ?_)
      refine tail _ _ o1 _ _ (by omega) (fun t ht => ?_) (by simp [relaxM, hso, c1]) ol ?_ ?_ (fun st hst => hst)
      · simp [upd, show t ≠ 9 by omega, show ∀ c, 31 ≤ c → ¬ t = c from fun c h => by omega]
      · simpa [upds] using hb
      · simpa [upds] using hx
    | true =>
      by_cases c2 : 0 ≤ x.1
      · have hxl : x.1.toNat < o1.length := by rcases hok with rfl | hok; · simp at c2
                                               omega
        have hxi : x.1 < (m.rows.length : Int) := by omega
        refine .then xr79_13 (by simp [o79_13, builtinD, lenD, pD, argA, h5, h7, hx, hso, hs, c1, c2, ol]; rfl) ?_
        refine .cond (v := true) (by simp [opd, upd]) (fun _ => ?_) (fun hf => by cases hf)
        refine .reg xr79_14 (by simp [o79_14, builtinD, lenD, pD, argA, h5, hx, c2, hxl, hxi, ol]; rfl) ?_
        refine tail _ _ (o1.set x.1.toNat true) _ _ (by omega) (fun t ht => ?_) (by simp [relaxM, hso, c1, es, c2]) (by simpa using ol) ?_ ?_ (fun st hst => hst)
        · simp [upd, show t ≠ 9 by omega, show ∀ c, 31 ≤ c → ¬ t = c from fun c h => by omega]
        · simpa [upds, upd] using hb
        · simp [upds, upd, List.map_set]
      · refine .then xr79_13 (by simp [o79_13, builtinD, lenD, pD, argA, h5, h7, hx, hso, hs, c1, c2, ol]; rfl) ?_
        refine .cond (v := false) (by simp [opd, upd]) (fun hf => by cases hf) (fun _ => .skip ?_)
        refine tail _ _ o1 _ _ (by omega) (fun t ht => ?_) (by simp [relaxM, hso, c1, es, c2]) ol ?_ ?_ (fun st hst => hst)
        · simp [upd, show t ≠ 9 by omega, show ∀ c, 31 ≤ c → ¬ t = c from fun c h => by omega]
        · simpa [upds] using hb
        · simpa [upds] using hx
  · rintro ⟨A, h⟩ ⟨le, fx, h6, h7, h8⟩
    have fx0 := fx
    obtain ⟨h2, h5, hb, hx, hn, ol⟩ := fx0
    simp only at h2 h5 h6 h7 h8 hb hx hn
    rw [cl79_2]
    refine .assoc (.then xr79_10 (by simp [o79_10, builtinD, lenD, pD, argA, h2, h8, hb, encM]; rfl) ?_)
    refine .head (by simp [opd, upd]; rfl) (fun hf => by simp at hf) (fun _ => hQ _ ⟨by omega, ?_, ?_, ?_, ?_⟩)
    · exact fx.step (fun t ht => by simp [upd, show ∀ c, 31 ≤ c → ¬ t = c from fun c h => by omega]) (by simp)
    · simp [upd, h6]
    · simp [upd, h7]
    · simp [upd, h8]

structure J79b (m : M) (r : Nat) (o : List Bool) (k : Nat) (st : St) : Prop where
  le : k ≤ m.rows.length
  fx : Fx m (roundRel m o (m.rows.length - k)) st
  h6 : st.A 6 = .int .i64 r
  h7 : st.A 7 = .int .i64 ((m.rows.length - k : Nat) : Int)

theorem loop79b {m : M} (hv : Valid m) {r : Nat} {o : List Bool} {Q : Po} (hQ : ∀ st, J79b m r o 0 st → Q.x 2 st) (k : Nat) (st : St) (hI : J79b m r o k st) : V E 79 58 (.loop l79_1) st Q := by
  have r2 := hv.r2
  refine V.count (J79b m r o) ?_ ?_ k st hI
  · rintro k ⟨A, h⟩ ⟨le, fx, h6, h7⟩
    have hlt : m.rows.length - (k + 1) < m.rows.length := by omega
    generalize hi : m.rows.length - (k + 1) = i at *
    have hk' : m.rows.length - k = i + 1 := by omega
    have hw : IntKind.i64.wrap ((i : Int) + 1) = ((i + 1 : Nat) : Int) := by rw [wrap_id] <;> omega
    have fx0 := fx
    obtain ⟨h2, h5, hb, hx, hn, ol⟩ := fx0
    simp only at h2 h5 h6 h7 hb hx hn
    rw [cl79_1]
    refine .assoc (.then xr79_7 (by simp [o79_7, builtinD, lenD, pD, argA, h2, h7, hb, encM]; rfl) ?_)
    refine .head (by simp [opd, upd]; rfl) (fun _ => ?_) (fun hf => by simp [hlt] at hf)
    refine .seq (.block (.then xr79_9 (by simp [o79_9, builtinD, lenD, pD, argA]; rfl) ?_))
    refine .block (loop79c (r := r) (o := roundRel m o i) hv hlt ?_ m.ins _ ⟨Nat.le_refl _, ?_, ?_, ?_, ?_⟩)
    · rintro ⟨A1, h1⟩ ⟨_, fx1, g6, g7, g8⟩
      simp only at g6 g7 g8
      show V E 79 58 r79_8 _ _
      refine .reg xr79_8 (by simp [o79_8, builtinD, lenD, pD, argA, g7]; rfl) ⟨by omega, ?_, ?_, ?_⟩
      · rw [hk', roundRel_succ]
        exact fx1.step (fun t ht => by simp [upd, show t ≠ 29 by omega, show t ≠ 30 by omega, show t ≠ 7 by omega]) (by simp)
      · simp [upd, g6]
      · simp [upd, hk', hw]
    · rw [Nat.sub_self]
      exact fx.step (fun t ht => by simp [upd, show t ≠ 8 by omega, show ∀ c, 24 ≤ c → ¬ t = c from fun c h => by omega]) (by omega)
    · simp [upd, h6]
    · simp [upd, h7]
    · simp [upd]
  · rintro ⟨A, h⟩ ⟨le, fx, h6, h7⟩
    have fx0 := fx
    obtain ⟨h2, h5, hb, hx, hn, ol⟩ := fx0
    simp only at h2 h5 h6 h7 hb hx hn
    rw [cl79_1]
    refine .assoc (.then xr79_7 (by simp [o79_7, builtinD, lenD, pD, argA, h2, h7, hb, encM]; rfl) ?_)
    refine .head (by simp [opd, upd]; rfl) (fun hf => by simp at hf) (fun _ => hQ _ ⟨by omega, ?_, ?_, ?_⟩)
    · exact fx.step (fun t ht => by simp [upd, show ∀ c, 24 ≤ c → ¬ t = c from fun c h => by omega]) (by simp)
    · simp [upd, h6]
    · simp [upd, h7]

structure J79a (m : M) (o : List Bool) (k : Nat) (st : St) : Prop where
  le : k ≤ m.rows.length
  fx : Fx m (reachN m o (m.rows.length - k)) st
  h6 : st.A 6 = .int .i64 ((m.rows.length - k : Nat) : Int)

theorem spec79 {m : M} (hv : Valid m) {f : Nat} (hf : f < m.rows.length) : bodyR 79 [encM m, .int .i64 f] = some (.frz ((reachM m f).map D.bool) .exact) := by
  have r1 := hv.r1
  have r2 := hv.r2
  have hmk : (m.rows.length : Int) ≤ 140737488355328 := by omega
  have hfi : (f : Int) < m.rows.length := by omega
  have mu79 : E.pol.mu 79 123 = true := by decide
  refine bodyR_V (run79 _ _ (by simp)) ?_
  unfold b79
  refine .then xr79_0 (by simp [o79_0, builtinD, lenD, pD, argA, encM]; rfl) ?_
  refine .then xr79_1 (by simp [o79_1, builtinD, lenD, pD, argA, hmk, mu79]; rfl) ?_
  refine .then xr79_2 (by simp [o79_2, builtinD, lenD, pD, argA, hf, hfi]; rfl) ?_
  refine .assoc (.then xr79_3 (by simp [o79_3, builtinD, lenD, pD, argA]; rfl) ?_)
  refine .seq (.block (V.count (J79a m ((List.replicate m.rows.length false).set f true)) ?_ ?_ m.rows.length _ ⟨Nat.le_refl _, ⟨?_, ?_, ?_, ?_, ?_, ?_⟩, ?_⟩))
  · rintro k ⟨A, h⟩ ⟨le, fx, h6⟩
    have hlt : m.rows.length - (k + 1) < m.rows.length := by omega
    generalize hi : m.rows.length - (k + 1) = i at *
    have hk' : m.rows.length - k = i + 1 := by omega
    have hw : IntKind.i64.wrap ((i : Int) + 1) = ((i + 1 : Nat) : Int) := by rw [wrap_id] <;> omega
    have fx0 := fx
    obtain ⟨h2, h5, hb, hx, hn, ol⟩ := fx0
    simp only at h2 h5 h6 hb hx hn
    rw [cl79_0]
    refine .assoc (.then xr79_4 (by simp [o79_4, builtinD, lenD, pD, argA, h2, h6, hb, encM]; rfl) ?_)
    refine .head (by simp [opd, upd]; rfl) (fun _ => ?_) (fun hf => by simp [hlt] at hf)
    refine .seq (.block (.then xr79_6 (by simp [o79_6, builtinD, lenD, pD, argA]; rfl) ?_))
    refine .block (loop79b (r := i) (o := reachN m ((List.replicate m.rows.length false).set f true) i) hv ?_ m.rows.length _ ⟨Nat.le_refl _, ?_, ?_, ?_⟩)
    · rintro ⟨A1, h1⟩ ⟨_, fx1, g6, g7⟩
      simp only at g6 g7
      show V E 79 58 r79_5 _ _
      refine .reg xr79_5 (by simp [o79_5, builtinD, lenD, pD, argA, g6]; rfl) ⟨by omega, ?_, ?_⟩
      · rw [hk', reachN_succ]
        exact fx1.step (fun t ht => by simp [upd, show t ≠ 22 by omega, show t ≠ 23 by omega, show t ≠ 6 by omega]) (by simp)
      · simp [upd, hk', hw]
    · rw [Nat.sub_self]
      exact fx.step (fun t ht => by simp [upd, show t ≠ 7 by omega, show ∀ c, 17 ≤ c → ¬ t = c from fun c h => by omega]) (by omega)
    · simp [upd, h6]
    · simp [upd]
  · rintro ⟨A, h⟩ ⟨le, fx, h6⟩
    have fx0 := fx
    obtain ⟨h2, h5, hb, hx, hn, ol⟩ := fx0
    simp only at h2 h5 h6 hb hx hn
    rw [cl79_0]
    refine .assoc (.then xr79_4 (by simp [o79_4, builtinD, lenD, pD, argA, h2, h6, hb, encM]; rfl) ?_)
    refine .head (by simp [opd, upd]; rfl) (fun hf => by simp at hf) (fun _ => ?_)
    refine .then xr79_15 (by simp [o79_15, builtinD, lenD, pD, argA, h5]; rfl) (.ret ⟨_, by simp [resultsD, mapO, resultD, upd]; rfl, ?_⟩)
    rw [Nat.sub_zero] at hx ol
    show Option.map _ (match (upds h.blk [] 5).row with | some (e, xs) => (if e = 1 ∧ 0 + m.rows.length ≤ xs.length then (match mapK (snap false _ 8) ((xs.drop 0).take m.rows.length) with | some (ys, k) => some (D.frz ys (if true && true then .exact else .unk), 5 :: k) | none => none) else none) | none => none) = _
    simp only [upds, hx, row_live, List.length_map, List.drop_zero]
    rw [if_pos ⟨trivial, by omega⟩, List.take_of_length_le (by simp; omega), mapK_map _ fun x _ => rfl]
    rfl
  · simp [upd]
  · simp [upd]
  · simp [upd, encM]
  · simp [upd, upds, reachN, List.map_set]
  · simp
  · simp [reachN]
  · simp [upd]
end Go.Eng.E3

namespace Go.Eng.E3
open Go Go.Eng Go.Proofs
set_option maxRecDepth 100000
attribute [local simp] execR runOps stepOp wantedD evalOp opd upd St.put Eff.apply upds looseOk FP.free FP.idle apart Eff.fp ofVal loadD storeD partD setPart indexAddrD isShift arith unD callOp mapO D.okc pickD buildable buildD placeD convD
set_option linter.unusedSimpArgs false
set_option maxHeartbeats 4000000

def clOf (p l : List Int) (k : Nat) : Int := p.getD (l.getD k 0).toNat 0
def thereM (p l : List Int) (k : Nat) : Nat → Bool
  | 0 => false
  | n + 1 => thereM p l k n || decide (clOf p l n = clOf p l k)
def firstN (p l : List Int) : Nat → List Int
  | 0 => []
  | k + 1 => if thereM p l k k then firstN p l k else firstN p l k ++ [l.getD k 0]
theorem firstN_len (p l : List Int) : ∀ k, (firstN p l k).length ≤ k
  | 0 => Nat.le_refl _
  | k + 1 => by
    have := firstN_len p l k
    rw [firstN]; split
    · omega
    · simp; omega
theorem firstN_mem (p l : List Int) : ∀ k, k ≤ l.length → ∀ o ∈ firstN p l k, o ∈ l
  | 0, _, o, ho => by cases ho
  | k + 1, hk, o, ho => by
    rw [firstN] at ho
    split at ho
    · exact firstN_mem p l k (by omega) o ho
    · rcases List.mem_append.1 ho with ho | ho
      · exact firstN_mem p l k (by omega) o ho
      · simp at ho; subst ho
        rw [List.getElem?_eq_getElem (by omega)]
        exact List.getElem_mem _

theorem mu51 : E.pol.mu 51 62 = false := by decide

structure J51 (p l out : List Int) (tk : Tok) (k : Nat) (blk : Nat → Blk) (nx : Nat) (j : Nat) (st : St) : Prop where
  le : j ≤ k
  h3 : st.A 3 = .frz (p.map (D.int .i64)) .unk
  h4 : ∃ t4, st.A 4 = .frz (l.map (D.int .i64)) t4
  h5 : st.A 5 = .frz (out.map (D.int .i64)) tk
  h6 : st.A 6 = .int .i64 k
  h7 : st.A 7 = .int .i64 (if thereM p l k (k - j) then 1 else 0)
  h8 : st.A 8 = .int .i64 ((k - j : Nat) : Int)
  hb : st.h.blk = blk
  hn : nx ≤ st.h.next

theorem loop51b {p l out : List Int} {tk : Tok} {k : Nat} {blk : Nat → Blk} {nx : Nat} (hk : k < l.length) (hl : ∀ o ∈ l, 0 ≤ o ∧ o < p.length) (hll : l.length ≤ 64) {Q : Po} (hQ : ∀ st, J51 p l out tk k blk nx 0 st → Q.x 2 st) (j : Nat) (st : St) (hI : J51 p l out tk k blk nx j st) : V E 51 49 (.loop l51_1) st Q := by
  refine V.count (J51 p l out tk k blk nx) ?_ ?_ j st hI
  · rintro j ⟨A, h⟩ ⟨le, h3, ⟨t4, h4⟩, h5, h6, h7, h8, hb, hn⟩
    have hlt : k - (j + 1) < k := by omega
    generalize hi : k - (j + 1) = i at *
    have hk' : k - j = i + 1 := by omega
    have hwr : IntKind.i64.wrap ((i : Int) + 1) = ((i + 1 : Nat) : Int) := by rw [wrap_id] <;> omega
    have hil : i < l.length := by omega
    have hoi := hl _ (List.getElem_mem hil)
    have hok := hl _ (List.getElem_mem hk)
    have oi1 := hoi.1
    have oi2 := hoi.2
    have ok1 := hok.1
    have ok2 := hok.2
    have oit : l[i].toNat < p.length := by omega
    have okt : l[k].toNat < p.length := by omega
    have ci : clOf p l i = p[l[i].toNat] := by simp [clOf, hil, oit]
    have ck : clOf p l k = p[l[k].toNat] := by simp [clOf, hk, okt]
    simp only at h3 h4 h5 h6 h7 h8 hb hn
    rw [cl51_1]
    refine .assoc (.then xr51_9 (by simp [o51_9, builtinD, lenD, pD, argA, h6, h8]; rfl) ?_)
    refine .head (by simp [opd, upd]; rfl) (fun _ => ?_) (fun hf => by simp [hlt] at hf)
    refine .seq (.block (.then xr51_11 (by simp [o51_11, builtinD, lenD, pD, argA, h3, h4, h6, h8, hil, hk, oi1, oi2, ok1, ok2, oit, okt]; rfl) ?_))
    by_cases hc : p[l[i].toNat] = p[l[k].toNat]
    · refine .cond (v := true) (by simp [opd, upd, hc]) (fun _ => ?_) (fun q => by cases q)
      refine .reg xr51_12 (by simp [o51_12, builtinD, lenD, pD, argA]; rfl) ?_
      show V E 51 49 r51_10 _ _
      refine .reg xr51_10 (by simp [o51_10, builtinD, lenD, pD, argA, h8]; rfl) ⟨by omega, ?_, ⟨t4, ?_⟩, ?_, ?_, ?_, ?_, ?_, ?_⟩
      · simp [upd, h3]
      · simp [upd, h4]
      · simp [upd, h5]
      · simp [upd, h6]
      · simp [upd, hk', thereM, ci, ck, hc]
      · simp [upd, hk', hwr]
      · simp [upds, hb]
      · simp; omega
    · refine .cond (v := false) (by simp [opd, upd, hc]) (fun q => by cases q) (fun _ => .skip ?_)
      refine .reg xr51_10 (by simp [o51_10, builtinD, lenD, pD, argA, h8]; rfl) ⟨by omega, ?_, ⟨t4, ?_⟩, ?_, ?_, ?_, ?_, ?_, ?_⟩
      · simp [upd, h3]
      · simp [upd, h4]
      · simp [upd, h5]
      · simp [upd, h6]
      · simp [upd, hk', thereM, ci, ck, hc, h7]
      · simp [upd, hk', hwr]
      · simp [upds, hb]
      · simp; omega
  · rintro ⟨A, h⟩ ⟨le, h3, ⟨t4, h4⟩, h5, h6, h7, h8, hb, hn⟩
    simp only at h3 h4 h5 h6 h7 h8 hb hn
    rw [cl51_1]
    refine .assoc (.then xr51_9 (by simp [o51_9, builtinD, lenD, pD, argA, h6, h8]; rfl) ?_)
    refine .head (by simp [opd, upd]; rfl) (fun hf => by simp at hf) (fun _ => hQ _ ⟨by omega, ?_, ⟨t4, ?_⟩, ?_, ?_, ?_, ?_, ?_, ?_⟩)
    · simp [upd, h3]
    · simp [upd, h4]
    · simp [upd, h5]
    · simp [upd, h6]
    · simp [upd, h7]
    · simp [upd, h8]
    · simp [upds, hb]
    · simp; omega

structure I51 (p l : List Int) (k : Nat) (st : St) : Prop where
  le : k ≤ l.length
  h3 : st.A 3 = .frz (p.map (D.int .i64)) .unk
  h4 : ∃ t4, st.A 4 = .frz (l.map (D.int .i64)) t4
  h5 : ∃ tk, st.A 5 = .frz ((firstN p l (l.length - k)).map (D.int .i64)) tk ∧ TokB st.h.blk tk 1 st.h.next ∧ (tk = .nil ↔ firstN p l (l.length - k) = [])
  h6 : st.A 6 = .int .i64 ((l.length - k : Nat) : Int)

theorem spec51 {m : M} (hv : Valid m) : ∃ j, (lev m 0 j).more = [] ∧ j < 2 ^ 30 ∧ bodyR 51 [encM m] = some (.frz ((firstN (partM' m m.rows.length) (ordN (lev m 0 j).l (lev m 0 j).is m.rows.length) (ordN (lev m 0 j).l (lev m 0 j).is m.rows.length).length).map (D.int .i64))
    (tkA (firstN (partM' m m.rows.length) (ordN (lev m 0 j).l (lev m 0 j).is m.rows.length) (ordN (lev m 0 j).l (lev m 0 j).is m.rows.length).length))) := by
  obtain ⟨j, hm, hj, hb78⟩ := spec78 hv
  refine ⟨j, hm, hj, ?_⟩
  have r2 := hv.r2
  have call : ∀ h, callI E (.fn 78 []) [.agg [.int .i64 m.ins, .int .i64 m.outs, .frz (m.rows.map rowD) .unk]] h = some (.frz ((ordN (lev m 0 j).l (lev m 0 j).is m.rows.length).map (D.int .i64)) (tkA (ordN (lev m 0 j).l (lev m 0 j).is m.rows.length)), h, {}) := fun h =>
    call_pure (by decide) (snaps1 (snap_encM _ _ 4 m)) hb78
  have hol := ord_ok (lev m 0 j).l (lev m 0 j).is m.rows.length
  have hpl : (partM' m m.rows.length).length = m.rows.length := (partN_len _ _).1
  have call77' := fun h => call77 hv h
  generalize ordN (lev m 0 j).l (lev m 0 j).is m.rows.length = l at *
  generalize partM' m m.rows.length = p at *
  have hl : ∀ o ∈ l, 0 ≤ o ∧ o < p.length := fun o ho => by have := hol.1 o ho; omega
  have hll : l.length ≤ 64 := by have := hol.2; omega
  refine bodyR_V (run51 _ _ (by simp)) ?_
  unfold b51
  refine .then xr51_0 (by simp [o51_0, builtinD, lenD, pD, argA, encM]; rfl) ?_
  refine .then xr51_1 (by simp [o51_1, builtinD, lenD, pD, argA, call77']; rfl) ?_
  refine .then xr51_2 (by simp [o51_2, builtinD, lenD, pD, argA, call]; rfl) ?_
  refine .then xr51_3 (by simp [o51_3, builtinD, lenD, pD, argA]; rfl) ?_
  refine .assoc (.then xr51_4 (by simp [o51_4, builtinD, lenD, pD, argA]; rfl) ?_)
  refine .seq (.block (V.count (I51 p l) ?_ ?_ l.length _ ⟨Nat.le_refl _, by simp [upd], ⟨_, by simp [upd]; rfl⟩, ⟨.nil, by simp [upd, firstN], .inl rfl, by simp [firstN]⟩, by simp [upd]⟩))
  · rintro k ⟨A, h⟩ ⟨le, h3, ⟨t4, h4⟩, ⟨tk, h5, ht, htn⟩, h6⟩
    have hlt : l.length - (k + 1) < l.length := by omega
    generalize hi : l.length - (k + 1) = i at *
    have hk' : l.length - k = i + 1 := by omega
    have hwr : IntKind.i64.wrap ((i : Int) + 1) = ((i + 1 : Nat) : Int) := by rw [wrap_id] <;> omega
    have hfl := firstN_len p l i
    have hfs : firstN p l (i + 1) = if thereM p l i i then firstN p l i else firstN p l i ++ [l.getD i 0] := rfl
    generalize firstN p l i = out at *
    simp only at h3 h4 h5 h6 ht
    rw [cl51_0]
    refine .assoc (.then xr51_5 (by simp [o51_5, builtinD, lenD, pD, argA, h4, h6]; rfl) ?_)
    refine .head (by simp [opd, upd]; rfl) (fun _ => ?_) (fun hf => by simp [hlt] at hf)
    refine .seq (.block (.then xr51_7 (by simp [o51_7, builtinD, lenD, pD, argA]; rfl) ?_))
    refine .assoc (.then xr51_8 (by simp [o51_8, builtinD, lenD, pD, argA]; rfl) ?_)
    refine .seq (.block (loop51b (p := p) (l := l) (out := out) (tk := tk) (k := i) (blk := h.blk) (nx := h.next) hlt hl hll ?_ i _ ⟨Nat.le_refl _, by simp [upd, h3], ⟨t4, by simp [upd, h4]⟩, by simp [upd, h5], by simp [upd, h6], by simp [upd, thereM], by simp [upd], by simp [upds], by simp; omega⟩))
    rintro ⟨A1, h1⟩ ⟨_, g3, ⟨t4', g4⟩, g5, g6, g7, g8, gb, gn⟩
    simp only at g3 g4 g5 g6 g7 g8 gb gn
    rw [Nat.sub_zero] at g7
    have ht1 : TokB h1.blk tk 1 h1.next := by rw [gb]; exact ht.mono gn (fun b _ hb => hb)
    have hltI : (i : Int) < l.length := by omega
    have hgl : l.getD i 0 = l[i] := by simp [hlt]
    show V E 51 49 _ _ _
    cases hth : thereM p l i i with
    | true =>
      rw [hth] at g7 hfs
      simp only [if_true] at g7 hfs
      refine .then xr51_13 (by simp [o51_13, builtinD, lenD, pD, argA, g7]; rfl) ?_
      refine .cond (v := false) (by simp [opd, upd]) (fun q => by cases q) (fun _ => .skip ?_)
      show V E 51 49 r51_6 _ _
      refine .reg xr51_6 (by simp [o51_6, builtinD, lenD, pD, argA, g6]; rfl) ⟨by omega, ?_, ⟨t4', ?_⟩, ⟨tk, ?_, ?_, ?_⟩, ?_⟩
      · simp [upd, g3]
      · simp [upd, g4]
      · rw [hk', hfs]; simp [upd, g5]
      · exact ht1.mono (by simp; omega) (fun b _ hb => by simpa [upds] using hb)
      · rw [hk', hfs]; exact htn
      · simp [upd, hk', hwr]
    | false =>
      rw [hth] at g7 hfs
      simp only [Bool.false_eq_true, if_false] at g7 hfs
      refine .then xr51_13 (by simp [o51_13, builtinD, lenD, pD, argA, g7]; rfl) ?_
      refine .cond (v := true) (by simp [opd, upd]) (fun _ => ?_) (fun q => by cases q)
      have ht2 : TokB h1.blk tk 1 (h1.next + 2) := ht1.mono (by omega) (fun b _ hb => hb)
      have ha : ∀ s, builtinD E.T (E.pol.mu 51) s h1.blk .append [62, 62] [.frz (out.map (D.int .i64)) tk, .frz [.int .i64 l[i]] .exact] = some { v := .frz (out.map (D.int .i64) ++ [.int .i64 l[i]]) (.own s 1), wr := tokWr tk s, rd := tokRd tk } := fun s => by
        have := app62 (mu := E.pol.mu 51) (s := s) (blk := h1.blk) (xs := out) (tk := tk) (tk' := .exact) (x := l[i]) mu51 ht2 (by omega)
        simpa using this
      refine .reg xr51_14 (by simp [o51_14, pD, argA, g4, g5, g6, hlt, hltI, ha, mu51, mapK, snapDepth, snap_int, kills]; rfl) ?_
      show V E 51 49 r51_6 _ _
      refine .reg xr51_6 (by simp [o51_6, builtinD, lenD, pD, argA, g6]; rfl) ⟨by omega, ?_, ⟨t4', ?_⟩, ⟨.own (h1.next + 2 + 6) 1, ?_, ?_, ?_⟩, ?_⟩
      · simp [upd, g3]
      · simp [upd, g4]
      · rw [hk', hfs, hgl]; simp [upd]
      · exact TokB.grow (by simp <;> omega)
      · rw [hk', hfs]; simp
      · simp [upd, hk', hwr]
  · rintro ⟨A, h⟩ ⟨le, h3, ⟨t4, h4⟩, ⟨tk, h5, ht, htn⟩, h6⟩
    simp only at h3 h4 h5 h6 ht
    rw [cl51_0]
    refine .assoc (.then xr51_5 (by simp [o51_5, builtinD, lenD, pD, argA, h4, h6]; rfl) ?_)
    refine .head (by simp [opd, upd]; rfl) (fun hf => by simp at hf) (fun _ => ?_)
    refine .then xr51_15 (by simp [o51_15, builtinD, lenD, pD, argA, h5]; rfl) (.ret ⟨_, by simp [resultsD, mapO, resultD, upd]; rfl, ?_⟩)
    rw [show snapDepth = 7 + 2 from rfl, snap_ints]
    have : Tok.fade true tk = tkA (firstN p l l.length) := by
      rw [Nat.sub_zero] at htn
      rcases ht with rfl | ⟨o, rfl, _, _⟩
      · rw [htn.1 rfl]; rfl
      · cases hq : firstN p l l.length with
        | nil => have := htn.2 hq; cases this
        | cons _ _ => rfl
    simp [this]
end Go.Eng.E3

namespace Go.Eng.E3
open Go Go.Eng Go.Proofs
set_option maxRecDepth 100000
attribute [local simp] execR runOps stepOp wantedD evalOp opd upd St.put Eff.apply upds looseOk FP.free FP.idle apart Eff.fp ofVal loadD storeD partD setPart indexAddrD isShift arith unD callOp mapO D.okc pickD buildable buildD placeD convD
set_option linter.unusedSimpArgs false
set_option maxHeartbeats 4000000

def lastK (p l : List Int) (is : List Bool) (s : Nat) : Nat → Int
  | 0 => -1
  | n + 1 => if is.getD s false && decide (clOf p l n = p.getD s 0) then (n : Int) else lastK p l is s n
def mapN (p l : List Int) (is : List Bool) (s : Nat) : List Int := (List.range s).map fun s => lastK p l is s l.length
theorem mapN_succ (p l : List Int) (is : List Bool) (s : Nat) : mapN p l is (s + 1) = mapN p l is s ++ [lastK p l is s l.length] := by simp [mapN, List.range_succ]
theorem mapN_len (p l : List Int) (is : List Bool) (s : Nat) : (mapN p l is s).length = s := by simp [mapN]

theorem mu52 : E.pol.mu 52 62 = false := by decide

structure J52 (p l out : List Int) (is : List Bool) (tk : Tok) (s : Nat) (blk : Nat → Blk) (nx : Nat) (j : Nat) (st : St) : Prop where
  le : j ≤ l.length
  h3 : st.A 3 = .frz (p.map (D.int .i64)) .unk
  h4 : ∃ t4, st.A 4 = .frz (l.map (D.int .i64)) t4
  h5 : st.A 5 = .frz (is.map D.bool) .exact
  h6 : st.A 6 = .frz (out.map (D.int .i64)) tk
  h7 : st.A 7 = .int .i64 s
  h8 : st.A 8 = .int .i64 (lastK p l is s (l.length - j))
  h9 : st.A 9 = .int .i64 ((l.length - j : Nat) : Int)
  hb : st.h.blk = blk
  hn : nx ≤ st.h.next

theorem loop52b {p l out : List Int} {is : List Bool} {tk : Tok} {s : Nat} {blk : Nat → Blk} {nx : Nat} (hs : s < p.length) (hip : is.length = p.length) (hl : ∀ o ∈ l, 0 ≤ o ∧ o < p.length) (hll : l.length ≤ 64) {Q : Po} (hQ : ∀ st, J52 p l out is tk s blk nx 0 st → Q.x 2 st) (j : Nat) (st : St) (hI : J52 p l out is tk s blk nx j st) : V E 52 52 (.loop l52_1) st Q := by
  refine V.count (J52 p l out is tk s blk nx) ?_ ?_ j st hI
  · rintro j ⟨A, h⟩ ⟨le, h3, ⟨t4, h4⟩, h5, h6, h7, h8, h9, hb, hn⟩
    have hlt : l.length - (j + 1) < l.length := by omega
    generalize hi : l.length - (j + 1) = i at *
    have hk' : l.length - j = i + 1 := by omega
    have hwr : IntKind.i64.wrap ((i : Int) + 1) = ((i + 1 : Nat) : Int) := by rw [wrap_id] <;> omega
    have hoi := hl _ (List.getElem_mem hlt)
    have oi1 := hoi.1
    have oi2 := hoi.2
    have oit : l[i].toNat < p.length := by omega
    have ci : clOf p l i = p[l[i].toNat] := by simp [clOf, hlt, oit]
    have hsi : s < is.length := by omega
    have hsI : (s : Int) < is.length := by omega
    have hsP : (s : Int) < p.length := by omega
    simp only at h3 h4 h5 h6 h7 h8 h9 hb hn
    rw [cl52_1]
    refine .assoc (.then xr52_10 (by simp [o52_10, builtinD, lenD, pD, argA, h4, h9]; rfl) ?_)
    refine .head (by simp [opd, upd]; rfl) (fun _ => ?_) (fun hf => by simp [hlt] at hf)
    have tail : ∀ (A2 : Nat → D) (n2 : Nat) (Q : Po), h.next ≤ n2 → A2 3 = A 3 → A2 4 = A 4 → A2 5 = A 5 → A2 6 = A 6 → A2 7 = A 7 → A2 9 = A 9 → A2 8 = .int .i64 (lastK p l is s (i + 1)) → (∀ st, J52 p l out is tk s blk nx j st → Q.n st) → V E 52 52 r52_11 ⟨A2, ⟨n2, h.blk⟩⟩ Q := by
      intro A2 n2 Q hn2 e3 e4 e5 e6 e7 e9 e8 hq
      have g9 := e9.trans h9
      refine .reg xr52_11 (by simp [o52_11, builtinD, lenD, pD, argA, g9]; rfl) (hq _ ⟨by omega, ?_, ⟨t4, ?_⟩, ?_, ?_, ?_, ?_, ?_, ?_, ?_⟩)
      · simp [upd, e3, h3]
      · simp [upd, e4, h4]
      · simp [upd, e5, h5]
      · simp [upd, e6, h6]
      · simp [upd, e7, h7]
      · simp [upd, hk', e8]
      · simp [upd, hk', hwr]
      · simp [upds, hb]
      · simp; omega
    cases c1 : is[s] with
    | false =>
      have hlk : lastK p l is s (i + 1) = lastK p l is s i := by rw [lastK]; simp [hsi, c1]
      refine .seq (.block (.then xr52_12 (by simp [o52_12, builtinD, lenD, pD, argA, h3, h4, h5, h7, h9, hlt, hsi, hsI, c1]; rfl) ?_))
      refine .cond (v := false) (by simp [opd, upd]) (fun q => by cases q) (fun _ => .skip ?_)
      refine tail _ _ _ ?_ ?_ ?_ ?_ ?_ ?_ ?_ ?_ (fun st hst => hst)
      · omega
      all_goals simp [upd, hlk, h8]
    | true =>
      by_cases hc : p[l[i].toNat] = p[s]
      · have hlk : lastK p l is s (i + 1) = i := by rw [lastK]; simp [hsi, c1, ci, hs, hc]
        refine .seq (.block (.then xr52_12 (by simp [o52_12, builtinD, lenD, pD, argA, h3, h4, h5, h7, h9, hlt, hsi, hsI, hsP, hs, c1, oi1, oi2, oit, hc]; rfl) ?_))
        refine .cond (v := true) (by simp [opd, upd]) (fun _ => ?_) (fun q => by cases q)
        refine .reg xr52_13 (by simp [o52_13, builtinD, lenD, pD, argA, h9]; rfl) ?_
        show V E 52 52 r52_11 _ _
        refine tail _ _ _ ?_ ?_ ?_ ?_ ?_ ?_ ?_ ?_ (fun st hst => hst)
        · omega
        all_goals simp [upd, hlk, h8]
      · have hlk : lastK p l is s (i + 1) = lastK p l is s i := by rw [lastK]; simp [hsi, c1, ci, hs, hc]
        refine .seq (.block (.then xr52_12 (by simp [o52_12, builtinD, lenD, pD, argA, h3, h4, h5, h7, h9, hlt, hsi, hsI, hsP, hs, c1, oi1, oi2, oit]; rfl) ?_))
        refine .cond (v := false) (by simp [opd, upd, hc]) (fun q => by cases q) (fun _ => .skip ?_)
        refine tail _ _ _ ?_ ?_ ?_ ?_ ?_ ?_ ?_ ?_ (fun st hst => hst)
        · omega
        all_goals simp [upd, hlk, h8]
  · rintro ⟨A, h⟩ ⟨le, h3, ⟨t4, h4⟩, h5, h6, h7, h8, h9, hb, hn⟩
    simp only at h3 h4 h5 h6 h7 h8 h9 hb hn
    rw [cl52_1]
    refine .assoc (.then xr52_10 (by simp [o52_10, builtinD, lenD, pD, argA, h4, h9]; rfl) ?_)
    refine .head (by simp [opd, upd]; rfl) (fun hf => by simp at hf) (fun _ => hQ _ ⟨by omega, ?_, ⟨t4, ?_⟩, ?_, ?_, ?_, ?_, ?_, ?_, ?_⟩)
    · simp [upd, h3]
    · simp [upd, h4]
    · simp [upd, h5]
    · simp [upd, h6]
    · simp [upd, h7]
    · simp [upd, h8]
    · simp [upd, h9]
    · simp [upds, hb]
    · simp; omega

structure I52 (p l : List Int) (is : List Bool) (k : Nat) (st : St) : Prop where
  le : k ≤ p.length
  h3 : st.A 3 = .frz (p.map (D.int .i64)) .unk
  h4 : ∃ t4, st.A 4 = .frz (l.map (D.int .i64)) t4
  h5 : st.A 5 = .frz (is.map D.bool) .exact
  h6 : ∃ tk, st.A 6 = .frz ((mapN p l is (p.length - k)).map (D.int .i64)) tk ∧ TokB st.h.blk tk 1 st.h.next ∧ (tk = .nil ↔ p.length - k = 0)
  h7 : st.A 7 = .int .i64 ((p.length - k : Nat) : Int)

/-- The states that stay. -/
def firstsM (m : M) (j : Nat) : List Int := firstN (partM' m m.rows.length) (ordN (lev m 0 j).l (lev m 0 j).is m.rows.length) (ordN (lev m 0 j).l (lev m 0 j).is m.rows.length).length

theorem spec52 {m : M} (hv : Valid m) : ∃ j, (lev m 0 j).more = [] ∧ j < 2 ^ 30 ∧ bodyR 51 [encM m] = some (.frz ((firstsM m j).map (D.int .i64)) (tkA (firstsM m j))) ∧
    bodyR 52 [encM m] = some (.frz ((mapN (partM' m m.rows.length) (firstsM m j) (reachM m 0) m.rows.length).map (D.int .i64)) .unk) := by
  obtain ⟨j, hm, hj, hb51⟩ := spec51 hv
  refine ⟨j, hm, hj, hb51, ?_⟩
  have r1 := hv.r1
  have r2 := hv.r2
  have call51 : ∀ h, callI E (.fn 51 []) [.agg [.int .i64 m.ins, .int .i64 m.outs, .frz (m.rows.map rowD) .unk]] h = some (.frz ((firstsM m j).map (D.int .i64)) (tkA (firstsM m j)), h, {}) := fun h =>
    call_pure (by decide) (snaps1 (snap_encM _ _ 4 m)) hb51
  have call79 : ∀ h, callI E (.fn 79 []) [.agg [.int .i64 m.ins, .int .i64 m.outs, .frz (m.rows.map rowD) .unk], .int .i64 0] h = some (.frz ((reachM m 0).map D.bool) .exact, h, {}) := fun h =>
    call_pure (by decide) (snaps2 (snap_encM _ _ 4 m) rfl) (spec79 hv hv.r1)
  have hol := ord_ok (lev m 0 j).l (lev m 0 j).is m.rows.length
  have hpl : (partM' m m.rows.length).length = m.rows.length := (partN_len _ _).1
  have hrl : (reachM m 0).length = m.rows.length := by
    have hr : ∀ (f : List Bool → Nat → List Bool), (∀ o i, (f o i).length = o.length) → ∀ (xs : List Nat) (o : List Bool), (xs.foldl f o).length = o.length := by
      intro f hf xs
      induction xs with
      | nil => intro o; rfl
      | cons x xs ih => intro o; rw [List.foldl_cons, ih, hf]
    have h1 : ∀ s o i, (relaxM m s o i).length = o.length := fun s o i => by unfold relaxM; split <;> simp
    have h2 : ∀ s o i, (rowRel m s o i).length = o.length := fun s o i => hr _ (h1 s) _ _
    have h3 : ∀ o s, (roundRel m o s).length = o.length := fun o s => hr (fun o s => rowRel m s o m.ins) (fun o s => h2 s o _) _ _
    have h4 : ∀ o k, (reachN m o k).length = o.length := fun o k => hr (fun o _ => roundRel m o m.rows.length) (fun o _ => h3 o _) _ _
    unfold reachM
    rw [h4]; simp
  have call77' := fun h => call77 hv h
  have hfl : (firstsM m j).length ≤ 64 := by
    have := firstN_len (partM' m m.rows.length) (ordN (lev m 0 j).l (lev m 0 j).is m.rows.length) (ordN (lev m 0 j).l (lev m 0 j).is m.rows.length).length
    have := hol.2
    unfold firstsM; omega
  have hl : ∀ o ∈ firstsM m j, 0 ≤ o ∧ o < (partM' m m.rows.length).length := fun o ho => by
    have := hol.1 o (firstN_mem _ _ _ (Nat.le_refl _) o ho); omega
  generalize firstsM m j = l at *
  generalize reachM m 0 = is at *
  generalize partM' m m.rows.length = p at *
  have hip : is.length = p.length := by omega
  rw [← hpl]
  refine bodyR_V (run52 _ _ (by simp)) ?_
  unfold b52
  refine .then xr52_0 (by simp [o52_0, builtinD, lenD, pD, argA, encM]; rfl) ?_
  refine .then xr52_1 (by simp [o52_1, builtinD, lenD, pD, argA, call77']; rfl) ?_
  refine .then xr52_2 (by simp [o52_2, builtinD, lenD, pD, argA, call51]; rfl) ?_
  refine .then xr52_3 (by simp [o52_3, builtinD, lenD, pD, argA, call79]; rfl) ?_
  refine .then xr52_4 (by simp [o52_4, builtinD, lenD, pD, argA]; rfl) ?_
  refine .assoc (.then xr52_5 (by simp [o52_5, builtinD, lenD, pD, argA]; rfl) ?_)
  refine .seq (.block (V.count (I52 p l is) ?_ ?_ p.length _ ⟨Nat.le_refl _, by simp [upd], ⟨_, by simp [upd]; rfl⟩, by simp [upd], ⟨.nil, by simp [upd, mapN], .inl rfl, by simp⟩, by simp [upd]⟩))
  · rintro k ⟨A, h⟩ ⟨le, h3, ⟨t4, h4⟩, h5, ⟨tk, h6, ht, htn⟩, h7⟩
    have hlt : p.length - (k + 1) < p.length := by omega
    generalize hi : p.length - (k + 1) = s at *
    have hk' : p.length - k = s + 1 := by omega
    have hwr : IntKind.i64.wrap ((s : Int) + 1) = ((s + 1 : Nat) : Int) := by rw [wrap_id] <;> omega
    have hms := mapN_succ p l is s
    have hml := mapN_len p l is s
    generalize mapN p l is s = out at *
    simp only at h3 h4 h5 h6 h7 ht
    rw [cl52_0]
    refine .assoc (.then xr52_6 (by simp [o52_6, builtinD, lenD, pD, argA, h3, h7]; rfl) ?_)
    refine .head (by simp [opd, upd]; rfl) (fun _ => ?_) (fun hf => by simp [hlt] at hf)
    refine .seq (.block (.then xr52_8 (by simp [o52_8, builtinD, lenD, pD, argA]; rfl) ?_))
    refine .assoc (.then xr52_9 (by simp [o52_9, builtinD, lenD, pD, argA]; rfl) ?_)
    refine .seq (.block (loop52b (p := p) (l := l) (out := out) (is := is) (tk := tk) (s := s) (blk := h.blk) (nx := h.next) hlt hip hl hfl ?_ l.length _ ⟨Nat.le_refl _, by simp [upd, h3], ⟨t4, by simp [upd, h4]⟩, by simp [upd, h5], by simp [upd, h6], by simp [upd, h7], by simp [upd, lastK], by simp [upd], by simp [upds], by simp; omega⟩))
    rintro ⟨A1, h1⟩ ⟨_, g3, ⟨t4', g4⟩, g5, g6, g7, g8, g9, gb, gn⟩
    simp only at g3 g4 g5 g6 g7 g8 g9 gb gn
    rw [Nat.sub_zero] at g8
    have ht1 : TokB h1.blk tk 1 h1.next := by rw [gb]; exact ht.mono gn (fun b _ hb => hb)
    have ha : ∀ s', builtinD E.T (E.pol.mu 52) s' h1.blk .append [62, 62] [.frz (out.map (D.int .i64)) tk, .frz [.int .i64 (lastK p l is s l.length)] .exact] = some { v := .frz (out.map (D.int .i64) ++ [.int .i64 (lastK p l is s l.length)]) (.own s' 1), wr := tokWr tk s', rd := tokRd tk } := fun s' => by
      have := app62 (mu := E.pol.mu 52) (s := s') (blk := h1.blk) (xs := out) (tk := tk) (tk' := .exact) (x := lastK p l is s l.length) mu52 ht1 (by omega)
      simpa using this
    show V E 52 52 r52_14 _ _
    refine .reg xr52_14 (by simp [o52_14, pD, argA, g6, g8, ha, mu52, mapK, snapDepth, snap_int, kills]; rfl) ?_
    show V E 52 52 r52_7 _ _
    refine .reg xr52_7 (by simp [o52_7, builtinD, lenD, pD, argA, g7]; rfl) ⟨by omega, ?_, ⟨t4', ?_⟩, ?_, ⟨.own (h1.next + 3) 1, ?_, ?_, by simp; omega⟩, ?_⟩
    · simp [upd, g3]
    · simp [upd, g4]
    · simp [upd, g5]
    · rw [hk', hms]; simp [upd]
    · exact TokB.grow (by simp <;> omega)
    · simp [upd, hk', hwr]
  · rintro ⟨A, h⟩ ⟨le, h3, ⟨t4, h4⟩, h5, ⟨tk, h6, ht, htn⟩, h7⟩
    simp only at h3 h4 h5 h6 h7 ht
    rw [cl52_0]
    refine .assoc (.then xr52_6 (by simp [o52_6, builtinD, lenD, pD, argA, h3, h7]; rfl) ?_)
    refine .head (by simp [opd, upd]; rfl) (fun hf => by simp at hf) (fun _ => ?_)
    refine .then xr52_15 (by simp [o52_15, builtinD, lenD, pD, argA, h6]; rfl) (.ret ⟨_, by simp [resultsD, mapO, resultD, upd]; rfl, ?_⟩)
    rw [show snapDepth = 7 + 2 from rfl, snap_ints]
    have : Tok.fade true tk = .unk := by
      rcases ht with rfl | ⟨o, rfl, _, _⟩
      · have := htn.1 rfl; omega
      · rfl
    simp [this]
end Go.Eng.E3

namespace Go.Eng.E3
open Go Go.Eng Go.Proofs
set_option maxRecDepth 100000
attribute [local simp] execR runOps stepOp wantedD evalOp opd upd St.put Eff.apply upds looseOk FP.free FP.idle apart Eff.fp ofVal loadD storeD partD setPart indexAddrD isShift arith unD callOp mapO D.okc pickD buildable buildD placeD convD
set_option linter.unusedSimpArgs false
set_option maxHeartbeats 4000000

theorem app72 {mu : TypeId → Bool} {s : Nat} {blk : Nat → Blk} {xs : List (Int × Int)} {tk tk' : Tok} {x : Int × Int} {nx : Nat} (hmu : mu 72 = false) (ht : TokB blk tk 2 nx) (hl : xs.length < 2 ^ 39) :
    builtinD E.T mu s blk .append [72, 72] [.frz (xs.map pD) tk, .frz [.agg [.int .i64 x.1, .int .i64 x.2]] tk'] = some { v := .frz ((xs ++ [x]).map pD) (.own s 2), wr := tokWr tk s, rd := tokRd tk } := by
  have hall : ∀ z ∈ xs.map pD ++ [pD x], z.cells.length = 2 := fun z hz => by
    rcases List.mem_append.1 hz with hz | hz
    · obtain ⟨y, _, rfl⟩ := List.mem_map.1 hz; rfl
    · simp at hz; subst hz; rfl
  have hle : ((xs.map pD).length + [pD x].length) * 16 * 2 ≤ maxAppend := by
    simp only [List.length_map, List.length_singleton, maxAppend]; omega
  have hsn : mapK (snap false blk snapDepth) [pD x] = some ([pD x], []) := rfl
  rw [show D.agg [.int .i64 x.1, .int .i64 x.2] = pD x from rfl]
  rcases ht with rfl | ⟨o, rfl, h2, h3⟩
  · simp only [builtinD, ok_72, desc_72, if_true, appendD, elem_72, elemsD, hmu, Bool.false_eq_true, if_false, hsn, size_55, bytes_55, kills, List.map_nil, List.append_nil, List.nil_append]
    rw [if_pos ⟨hall, hle, by decide, by decide⟩]
    simp [tokWr, tokRd]
  · simp only [builtinD, ok_72, desc_72, if_true, appendD, elem_72, elemsD, hmu, Bool.false_eq_true, if_false, hsn, size_55, bytes_55, kills, List.map_nil, List.append_nil, List.nil_append]
    rw [if_pos ⟨hall, hle, by decide, by decide⟩]
    simp only [if_true, h2]
    simp [tokWr, tokRd]

theorem app32 {mu : TypeId → Bool} {s : Nat} {blk : Nat → Blk} {xs : List (List (Int × Int))} {tk tk' : Tok} {x : List (Int × Int)} {nx : Nat} (hmu : mu 32 = false) (ht : TokB blk tk 1 nx) (hl : xs.length < 2 ^ 39) :
    builtinD E.T mu s blk .append [32, 32] [.frz (xs.map rowD) tk, .frz [.frz (x.map pD) .unk] tk'] = some { v := .frz ((xs ++ [x]).map rowD) (.own s 1), wr := tokWr tk s, rd := tokRd tk } := by
  have hall : ∀ z ∈ xs.map rowD ++ [rowD x], z.cells.length = 1 := fun z hz => by
    rcases List.mem_append.1 hz with hz | hz
    · obtain ⟨y, _, rfl⟩ := List.mem_map.1 hz; rfl
    · simp at hz; subst hz; rfl
  have hle : ((xs.map rowD).length + [rowD x].length) * 24 * 2 ≤ maxAppend := by
    simp only [List.length_map, List.length_singleton, maxAppend]; omega
  have hsn : mapK (snap false blk snapDepth) [rowD x] = some ([rowD x], []) := by
    simp only [mapK, show snap false blk snapDepth (rowD x) = some (rowD x, []) from snap_rowD false blk 6 x]; rfl
  rw [show D.frz (x.map pD) .unk = rowD x from rfl]
  rcases ht with rfl | ⟨o, rfl, h2, h3⟩
  · simp only [builtinD, ok_32, desc_32, if_true, appendD, elem_32, elemsD, hmu, Bool.false_eq_true, if_false, hsn, size_72, bytes_72, kills, List.map_nil, List.append_nil, List.nil_append]
    rw [if_pos ⟨hall, hle, by decide, by decide⟩]
    simp [tokWr, tokRd]
  · simp only [builtinD, ok_32, desc_32, if_true, appendD, elem_32, elemsD, hmu, Bool.false_eq_true, if_false, hsn, size_72, bytes_72, kills, List.map_nil, List.append_nil, List.nil_append]
    rw [if_pos ⟨hall, hle, by decide, by decide⟩]
    simp only [if_true, h2]
    simp [tokWr, tokRd]

def moveE (to : List Int) (x : Int × Int) : Int × Int := if 0 ≤ x.1 then (to.getD x.1.toNat 0, x.2) else x
def minRow (m : M) (to : List Int) (s : Nat) (i : Nat) : List (Int × Int) := (List.range i).map fun i => moveE to (edge m s i)
theorem minRow_succ (m : M) (to : List Int) (s i : Nat) : minRow m to s (i + 1) = minRow m to s i ++ [moveE to (edge m s i)] := by simp [minRow, List.range_succ]
def minRows (m : M) (to l : List Int) (k : Nat) : List (List (Int × Int)) := (List.range k).map fun k => minRow m to (l.getD k 0).toNat m.ins
theorem minRows_succ (m : M) (to l : List Int) (k : Nat) : minRows m to l (k + 1) = minRows m to l k ++ [minRow m to (l.getD k 0).toNat m.ins] := by simp [minRows, List.range_succ]

theorem mu20a : E.pol.mu 20 72 = false := by decide
theorem mu20b : E.pol.mu 20 32 = false := by decide

/-- What stays: m, the states that stay, the map, the rows so far; below N. -/
structure F20 (m : M) (l to : List Int) (rows : List (List (Int × Int))) (k N : Nat) (st : St) : Prop where
  h1 : st.A 1 = .ptr 0 0 0
  h2 : st.A 2 = .ptr 1 0 0
  h3 : ∃ t3, st.A 3 = .frz (l.map (D.int .i64)) t3
  h4 : st.A 4 = .frz (to.map (D.int .i64)) .unk
  h5 : st.A 5 = .ptr 13 0 0
  h6 : st.A 6 = .int .i64 k
  hb : st.h.blk 0 = .live 3 [encM m]
  hz : ∃ z, st.h.blk 1 = .live 3 [.agg [.int .i64 0, .int .i64 0, z]]
  hr : ∃ tr, st.h.blk 13 = .live 3 [.agg [.int .i64 m.ins, .int .i64 m.outs, .frz (rows.map rowD) tr]] ∧ TokB st.h.blk tr 1 N ∧ (tr = .nil ↔ k = 0)
  hN : 15 ≤ N
  hn : N ≤ st.h.next

theorem F20.step {m : M} {l to : List Int} {rows : List (List (Int × Int))} {k N : Nat} {A A' : Nat → D} {h h' : H} (f : F20 m l to rows k N ⟨A, h⟩) (e : ∀ t, t < 7 → A' t = A t) (hn : h.next ≤ h'.next) (hb : ∀ b, b < N → h'.blk b = h.blk b) : F20 m l to rows k N ⟨A', h'⟩ := by
  obtain ⟨q1, q2, ⟨t3, q3⟩, q4, q5, q6, q7, ⟨z, q8⟩, ⟨tr, q9, q10, q11⟩, q12, q13⟩ := f
  simp only at q1 q2 q3 q4 q5 q6 q7 q8 q9 q10 q13
  refine ⟨(e 1 (by omega)).trans q1, (e 2 (by omega)).trans q2, ⟨t3, (e 3 (by omega)).trans q3⟩, (e 4 (by omega)).trans q4, (e 5 (by omega)).trans q5, (e 6 (by omega)).trans q6, (hb 0 (by omega)).trans q7, ⟨z, (hb 1 (by omega)).trans q8⟩, ⟨tr, (hb 13 (by omega)).trans q9, ?_, q11⟩, q12, by simp only; omega⟩
  exact q10.mono (Nat.le_refl _) (fun b hb1 hb2 => (hb b hb1).trans hb2)

def T7 (blk : Nat → Blk) (tk : Tok) (N nx : Nat) : Prop := tk = .nil ∨ ∃ o, tk = .own o 2 ∧ blk o = .tok ∧ N ≤ o ∧ o < nx
theorem T7.tok {blk : Nat → Blk} {tk : Tok} {N nx : Nat} (h : T7 blk tk N nx) : TokB blk tk 2 nx := by
  rcases h with h | ⟨o, h1, h2, _, h3⟩
  · exact .inl h
  · exact .inr ⟨o, h1, h2, h3⟩

structure J20 (m : M) (l to : List Int) (rows : List (List (Int × Int))) (k N : Nat) (j : Nat) (st : St) : Prop where
  le : j ≤ m.ins
  f : F20 m l to rows k N st
  h7 : ∃ t7, st.A 7 = .frz ((minRow m to (l.getD k 0).toNat (m.ins - j)).map pD) t7 ∧ T7 st.h.blk t7 N st.h.next
  h8 : st.A 8 = .int .i64 ((m.ins - j : Nat) : Int)

theorem loop20b {m : M} (hv : Valid m) {l to : List Int} {rows : List (List (Int × Int))} {k N : Nat} (hk : k < l.length) (hl : ∀ o ∈ l, 0 ≤ o ∧ o < m.rows.length) (hto : to.length = m.rows.length) {Q : Po} (hQ : ∀ st, J20 m l to rows k N 0 st → Q.x 2 st) (j : Nat) (st : St) (hI : J20 m l to rows k N j st) : V E 20 62 (.loop l20_1) st Q := by
  have i2 := hv.i2
  refine V.count (J20 m l to rows k N) ?_ ?_ j st hI
  · rintro j ⟨A, h⟩ ⟨le, f, ⟨t7, h7, ht⟩, h8⟩
    have hlt : m.ins - (j + 1) < m.ins := by omega
    generalize hi : m.ins - (j + 1) = i at *
    have hk' : m.ins - j = i + 1 := by omega
    have hwr : IntKind.i64.wrap ((i : Int) + 1) = ((i + 1 : Nat) : Int) := by rw [wrap_id] <;> omega
    have hok := hl _ (List.getElem_mem hk)
    have o1 := hok.1
    have o2 := hok.2
    have ot : l[k].toNat < m.rows.length := by omega
    have hls : i < m.rows[l[k].toNat].length := by rw [hv.len _ (List.getElem_mem ot)]; exact hlt
    have es : edge m (l.getD k 0).toNat i = m.rows[l[k].toNat][i] := by simp [edge, hk, ot, hls]
    have hxok := hv.ok _ (List.getElem_mem ot) _ (List.getElem_mem hls)
    have hms := minRow_succ m to (l.getD k 0).toNat i
    have hml : (minRow m to (l.getD k 0).toNat i).length < 2 ^ 39 := by simp [minRow]; omega
    obtain ⟨x, hx⟩ : ∃ x, m.rows[l[k].toNat][i] = x := ⟨_, rfl⟩
    rw [hx] at es hxok
    rw [es] at hms
    generalize minRow m to (l.getD k 0).toNat i = row at *
    have f0 := f
    obtain ⟨h1, h2, ⟨t3, h3⟩, h4, h5, h6, hb, ⟨z, hz⟩, ⟨tr, hr, htr, htn⟩, hN, hn⟩ := f0
    simp only at h1 h2 h3 h4 h5 h6 h7 h8 hb hz hr htr hn ht
    have hb0 : ∀ j, (0 = h.next + j) = False := fun j => by simp; omega
    -- the rest of the round, whatever edge it is
    have rest : ∀ (A2 : Nat → D) (h2' : H) (y : Int × Int) (c : Nat) (Q : Po), h.next ≤ c → c < h2'.next → (∀ t, t < 9 → A2 t = A t) → A2 9 = .ptr c 0 0 → h2'.blk c = .live 2 [.agg [.int .i64 y.1, .int .i64 y.2]] → (∀ b, b < h.next → h2'.blk b = h.blk b) → moveE to x = y → (∀ st, J20 m l to rows k N j st → Q.n st) →
        V E 20 62 r20_14 ⟨A2, h2'⟩ ((Q.upto fun s' => V E 20 62 r20_10 s' Q).within 3) := by
      intro A2 h2' y c Q hc1 hc2 he e9 ec eb hy hq
      have e7 := (he 7 (by omega)).trans h7
      have ht2 : TokB h2'.blk t7 2 h2'.next := ht.tok.mono (by omega) (fun b hb1 hb2 => (eb b hb1).trans hb2)
      have ha : ∀ s, builtinD E.T (E.pol.mu 20) s h2'.blk .append [72, 72] [.frz (row.map pD) t7, .frz [.agg [.int .i64 y.1, .int .i64 y.2]] .exact] = some { v := .frz (row.map pD ++ [.agg [.int .i64 y.1, .int .i64 y.2]]) (.own s 2), wr := tokWr t7 s, rd := tokRd t7 } := fun s => by
        have := app72 (mu := E.pol.mu 20) (s := s) (blk := h2'.blk) (xs := row) (tk := t7) (tk' := .exact) (x := y) mu20a ht2 hml
        simpa [pD] using this
      refine .reg xr20_14 (by simp [o20_14, pD, argA, e7, e9, ec, ha, mu20a, mapK, snapDepth, snap_int, snap, kills]; rfl) ?_
      show V E 20 62 r20_10 _ Q
      have g8 := (he 8 (by omega)).trans h8
      refine .reg xr20_10 (by simp [o20_10, builtinD, lenD, pD, argA, g8]; rfl) (hq _ ⟨by omega, ?_, ⟨.own (h2'.next + 3) 2, ?_, ?_⟩, ?_⟩)
      · refine (f.step (A' := A2) (h' := h2') (fun t ht => he t (by omega)) (by omega) (fun b hb => eb b (by omega))).step (fun t ht => by simp [upd, show t ≠ 7 by omega, show t ≠ 8 by omega, show ∀ c, 29 ≤ c → ¬ t = c from fun c h => by omega]) (by simp; omega) (fun b hb => ?_)
        simp only [upds]
        rcases ht with rfl | ⟨o, rfl, oo, oN, on⟩
        · simp [tokWr, upds, upd, show ¬ b = h2'.next + 3 by omega]
        · simp [tokWr, upds, upd, show ¬ b = h2'.next + 3 by omega, show ¬ b = o by omega]
      · rw [hk', hms, hy]; simp [upd, pD]
      · refine .inr ⟨_, rfl, ?_, by omega, by simp⟩
        simp only [upds]
        rcases ht with rfl | ⟨o, rfl, oo, oN, on⟩ <;> simp [tokWr, upds, upd]
      · simp [upd, hk', hwr]
    rw [cl20_1]
    refine .assoc (.then xr20_9 (by simp [o20_9, builtinD, lenD, pD, argA, h1, h8, hb, encM]; rfl) ?_)
    refine .head (by simp [opd, upd]; rfl) (fun _ => ?_) (fun hf => by simp [hlt] at hf)
    refine .seq (.block (.then xr20_11 (by simp [o20_11, builtinD, lenD, pD, argA, h1, h3, h6, h8, hb, encM, hk, o1, o2, ot, hls, hx, rowD, hb0]; rfl) ?_))
    refine .assoc (.then xr20_12 (by simp [o20_12, builtinD, lenD, pD, argA]; rfl) ?_)
    by_cases c1 : 0 ≤ x.1
    · have hxt : x.1.toNat < to.length := by rw [hto]; rcases hxok with rfl | q; · simp at c1
                                             omega
      have hxi : x.1 < (to.length : Int) := by omega
      refine .seq (.cond (v := true) (by simp [opd, upd, c1]) (fun _ => ?_) (fun q => by cases q))
      refine .reg xr20_13 (by simp [o20_13, builtinD, lenD, pD, argA, h4, c1, hxt, hxi]; rfl) ?_
      refine rest _ _ (to[x.1.toNat], x.2) (h.next + 4 + 11) _ (by omega) ?_ ?_ ?_ ?_ ?_ ?_ (fun st hst => hst)
      · simp <;> omega
      · intro t ht; simp [upd, show t ≠ 9 by omega, show ∀ c, 25 ≤ c → ¬ t = c from fun c h => by omega]
      · simp [upd]
      · simp [upd, upds]
      · intro b hb; simp [upd, upds, show ¬ b = h.next + 4 + 11 by omega]
      · simp [moveE, c1, hxt]
    · refine .seq (.cond (v := false) (by simp [opd, upd]; omega) (fun q => by cases q) (fun _ => .skip ?_))
      refine rest _ _ x (h.next + 4 + 11) _ (by omega) ?_ ?_ ?_ ?_ ?_ ?_ (fun st hst => hst)
      · simp <;> omega
      · intro t ht; simp [upd, show t ≠ 9 by omega, show ∀ c, 25 ≤ c → ¬ t = c from fun c h => by omega]
      · simp [upd]
      · simp [upd, upds]
      · intro b hb; simp [upd, upds, show ¬ b = h.next + 4 + 11 by omega]
      · simp [moveE, c1]
  · rintro ⟨A, h⟩ ⟨le, f, ⟨t7, h7, ht⟩, h8⟩
    have h1 := f.h1
    have hb := f.hb
    simp only at h1 hb h7 h8
    rw [cl20_1]
    refine .assoc (.then xr20_9 (by simp [o20_9, builtinD, lenD, pD, argA, h1, h8, hb, encM]; rfl) ?_)
    refine .head (by simp [opd, upd]; rfl) (fun hf => by simp at hf) (fun _ => hQ _ ⟨by omega, ?_, ⟨t7, ?_, ?_⟩, ?_⟩)
    · exact f.step (fun t ht => by simp [upd, show ∀ c, 25 ≤ c → ¬ t = c from fun c h => by omega]) (by simp) (fun _ _ => rfl)
    · simp [upd, h7]
    · rcases ht with q | ⟨o, q1, q2, q3, q4⟩
      · exact .inl q
      · exact .inr ⟨o, q1, q2, q3, by simp only at q4 ⊢; omega⟩
    · simp [upd, h8]

structure I20 (m : M) (l to : List Int) (k : Nat) (st : St) : Prop where
  le : k ≤ l.length
  f : F20 m l to (minRows m to l (l.length - k)) (l.length - k) st.h.next st

/-- The minimal form. -/
def minM (m : M) (to l : List Int) : M := ⟨m.ins, m.outs, minRows m to l l.length⟩

theorem spec20 {m : M} (hv : Valid m) : ∃ j, (lev m 0 j).more = [] ∧ j < 2 ^ 30 ∧
    bodyR 20 [encM m] = some (.agg [.int .i64 m.ins, .int .i64 m.outs, .frz ((minRows m (mapN (partM' m m.rows.length) (firstsM m j) (reachM m 0) m.rows.length) (firstsM m j) (firstsM m j).length).map rowD) (tkA (firstsM m j))]) := by
  obtain ⟨j, hm, hj, hb51, hb52⟩ := spec52 hv
  refine ⟨j, hm, hj, ?_⟩
  have r2 := hv.r2
  have call51 : ∀ h, callI E (.fn 51 []) [.agg [.int .i64 m.ins, .int .i64 m.outs, .frz (m.rows.map rowD) .unk]] h = some (.frz ((firstsM m j).map (D.int .i64)) (tkA (firstsM m j)), h, {}) := fun h =>
    call_pure (by decide) (snaps1 (snap_encM _ _ 4 m)) hb51
  have call52 : ∀ h, callI E (.fn 52 []) [.agg [.int .i64 m.ins, .int .i64 m.outs, .frz (m.rows.map rowD) .unk]] h = some (.frz ((mapN (partM' m m.rows.length) (firstsM m j) (reachM m 0) m.rows.length).map (D.int .i64)) .unk, h, {}) := fun h =>
    call_pure (by decide) (snaps1 (snap_encM _ _ 4 m)) hb52
  have hol := ord_ok (lev m 0 j).l (lev m 0 j).is m.rows.length
  have hl : ∀ o ∈ firstsM m j, 0 ≤ o ∧ o < m.rows.length := fun o ho => hol.1 o (firstN_mem _ _ _ (Nat.le_refl _) o ho)
  have hfl : (firstsM m j).length ≤ 64 := by
    have := firstN_len (partM' m m.rows.length) (ordN (lev m 0 j).l (lev m 0 j).is m.rows.length) (ordN (lev m 0 j).l (lev m 0 j).is m.rows.length).length
    have := hol.2
    unfold firstsM; omega
  have hto : (mapN (partM' m m.rows.length) (firstsM m j) (reachM m 0) m.rows.length).length = m.rows.length := mapN_len _ _ _ _
  generalize firstsM m j = l at *
  generalize mapN (partM' m m.rows.length) l (reachM m 0) m.rows.length = to at *
  refine bodyR_V (run20 _ _ (by simp)) ?_
  unfold b20
  refine .then xr20_0 (by simp [o20_0, builtinD, lenD, pD, argA, encM]; rfl) ?_
  refine .then xr20_1 (by simp [o20_1, builtinD, lenD, pD, argA, call51]; rfl) ?_
  refine .then xr20_2 (by simp [o20_2, builtinD, lenD, pD, argA, call52]; rfl) ?_
  refine .then xr20_3 (by simp [o20_3, builtinD, lenD, pD, argA, buildable, buildD, placeD]; rfl) ?_
  refine .assoc (.then xr20_4 (by simp [o20_4, builtinD, lenD, pD, argA]; rfl) ?_)
  refine .seq (.block (V.count (I20 m l to) ?_ ?_ l.length _ ⟨Nat.le_refl _, ⟨?_, ?_, ⟨tkA l, ?_⟩, ?_, ?_, ?_, ?_, ⟨.frz [] .nil, ?_⟩, ⟨.nil, ?_, .inl rfl, by simp⟩, ?_, ?_⟩⟩))
  · rintro k ⟨A, h⟩ ⟨le, f⟩
    have hlt : l.length - (k + 1) < l.length := by omega
    generalize hi : l.length - (k + 1) = i at *
    have hk' : l.length - k = i + 1 := by omega
    have hwr : IntKind.i64.wrap ((i : Int) + 1) = ((i + 1 : Nat) : Int) := by rw [wrap_id] <;> omega
    have hms := minRows_succ m to l i
    have hml : (minRows m to l i).length < 2 ^ 39 := by simp [minRows]; omega
    generalize minRows m to l i = rows at *
    obtain ⟨t3, h3⟩ := f.h3
    have h6 := f.h6
    simp only at h3 h6 f
    rw [cl20_0]
    refine .assoc (.then xr20_5 (by simp [o20_5, builtinD, lenD, pD, argA, h3, h6]; rfl) ?_)
    refine .head (by simp [opd, upd]; rfl) (fun _ => ?_) (fun hf => by simp [hlt] at hf)
    refine .seq (.block (.then xr20_7 (by simp [o20_7, builtinD, lenD, pD, argA]; rfl) ?_))
    refine .assoc (.then xr20_8 (by simp [o20_8, builtinD, lenD, pD, argA]; rfl) ?_)
    refine .seq (.block (loop20b (l := l) (to := to) (rows := rows) (k := i) (N := h.next) hv hlt hl hto ?_ m.ins _ ⟨Nat.le_refl _, ?_, ⟨.nil, ?_, .inl rfl⟩, ?_⟩))
    · rintro ⟨A1, h1⟩ ⟨_, f1, ⟨t7, g7, gt⟩, g8⟩
      rw [Nat.sub_zero] at g7
      obtain ⟨q1, q2, ⟨t3', q3⟩, q4, q5, q6, qb, ⟨z, qz⟩, ⟨tr, qr, qtr, qtn⟩, qN, qn⟩ := f1
      simp only at g7 gt q1 q2 q3 q4 q5 q6 qb qz qr qtr qn
      have htr1 : TokB h1.blk tr 1 h1.next := qtr.mono qn (fun b _ hb => hb)
      have hsn : ∀ blk, snap false blk 9 (.frz ((minRow m to (l.getD i 0).toNat m.ins).map pD) t7) = some (.frz ((minRow m to (l.getD i 0).toNat m.ins).map pD) .unk, []) := fun blk => by
        rw [show (9 : Nat) = 6 + 3 from rfl, snap_pairs]
        rcases gt with rfl | ⟨o, rfl, _, _, _⟩ <;> rfl
      have ha : ∀ s, builtinD E.T (E.pol.mu 20) s h1.blk .append [32, 32] [.frz (rows.map rowD) tr, .frz [.frz ((minRow m to (l.getD i 0).toNat m.ins).map pD) .unk] .exact] = some { v := .frz (rows.map rowD ++ [rowD (minRow m to (l.getD i 0).toNat m.ins)]) (.own s 1), wr := tokWr tr s, rd := tokRd tr } := fun s => by
        have := app32 (mu := E.pol.mu 20) (s := s) (blk := h1.blk) (xs := rows) (tk := tr) (tk' := .exact) (x := minRow m to (l.getD i 0).toNat m.ins) mu20b htr1 hml
        simpa using this
      have hk13 : ∀ s, ¬ 13 = s → upds h1.blk (tokWr tr s) 13 = h1.blk 13 := fun s hs => tokWr_keep htr1 (by rw [qr]; simp) hs
      have hk0 : ∀ s, ¬ 0 = s → upds h1.blk (tokWr tr s) 0 = h1.blk 0 := fun s hs => tokWr_keep htr1 (by rw [qb]; simp) hs
      have hk1 : ∀ s, ¬ 1 = s → upds h1.blk (tokWr tr s) 1 = h1.blk 1 := fun s hs => tokWr_keep htr1 (by rw [qz]; simp) hs
      generalize minRow m to (l.getD i 0).toNat m.ins = row at *
      have h13 : ¬ 13 = h1.next + 4 := by omega
      have e13 := (hk13 (h1.next + 4) h13).trans qr
      show V E 20 62 r20_15 _ _
      refine .reg xr20_15 (by simp [o20_15, pD, argA, q5, qr, g7, ha, hsn, e13, mu20b, mapK, snapDepth, kills]; rfl) ?_
      show V E 20 62 r20_6 _ _
      refine .reg xr20_6 (by simp [o20_6, builtinD, lenD, pD, argA, q6]; rfl) ⟨by omega, ⟨?_, ?_, ⟨t3', ?_⟩, ?_, ?_, ?_, ?_, ⟨z, ?_⟩, ⟨.own (h1.next + 4) 1, ?_, ?_, by simp; omega⟩, ?_, ?_⟩⟩
      · simp [upd, q1]
      · simp [upd, q2]
      · simp [upd, q3]
      · simp [upd, q4]
      · simp [upd, q5]
      · simp [upd, hk', hwr]
      · simpa [upd, upds] using (hk0 (h1.next + 4) (by omega)).trans qb
      · simpa [upd, upds] using (hk1 (h1.next + 4) (by omega)).trans qz
      · rw [hk', hms]; simp [upd, upds]
      · refine .inr ⟨_, rfl, ?_, by simp <;> omega⟩
        have hg := TokB.grow (blk := h1.blk) (tk := tr) (e := 1) (s := h1.next + 4) (nx := h1.next + 5) (by omega)
        rcases hg with hg | ⟨o, hg1, hg2, _⟩
        · cases hg
        · cases hg1
          simpa [upd, upds, show ¬ h1.next + 4 = 13 by omega] using hg2
      · simp <;> omega
      · simp
    · exact f.step (fun t ht => by simp [upd, show t ≠ 7 by omega, show t ≠ 8 by omega, show ∀ c, 19 ≤ c → ¬ t = c from fun c h => by omega]) (by simp only; omega) (fun _ _ => rfl)
    · simp [upd, minRow]
    · simp [upd]
  · rintro ⟨A, h⟩ ⟨le, f⟩
    obtain ⟨q1, q2, ⟨t3', q3⟩, q4, q5, q6, qb, ⟨z, qz⟩, ⟨tr, qr, qtr, qtn⟩, qN, qn⟩ := f
    simp only at q1 q2 q3 q4 q5 q6 qb qz qr qtr qn
    rw [cl20_0]
    refine .assoc (.then xr20_5 (by simp [o20_5, builtinD, lenD, pD, argA, q3, q6]; rfl) ?_)
    refine .head (by simp [opd, upd]; rfl) (fun hf => by simp at hf) (fun _ => ?_)
    refine .then xr20_16 (by simp [o20_16, builtinD, lenD, pD, argA, q2, q5, qr, qz]; rfl) (.ret ⟨_, by simp [resultsD, mapO, resultD, upd, upds, q2, loadD, partD]; rfl, ?_⟩)
    have hg1 : 1 ≤ l.length ∨ l.length = 0 := by omega
    rw [Nat.sub_zero] at qtn
    have htk : tr.fade true = tkA l := by
      rcases qtr with rfl | ⟨o, rfl, _, _⟩
      · have := List.eq_nil_of_length_eq_zero (qtn.1 rfl); subst this; rfl
      · cases l with
        | nil => have := qtn.2 rfl; cases this
        | cons _ _ => rfl
    have hs : ∀ (rows : List (List (Int × Int))) (blk : Nat → Blk), snap true blk snapDepth (.agg [.int .i64 m.ins, .int .i64 m.outs, .frz (rows.map rowD) tr]) = some (.agg [.int .i64 m.ins, .int .i64 m.outs, .frz (rows.map rowD) (tr.fade true)], []) := fun rows blk => by
      show (match mapK (snap true blk 8) [.int .i64 m.ins, .int .i64 m.outs, .frz (rows.map rowD) tr] with | some (ys, k) => some (D.agg ys, k) | none => none) = _
      have : snap true blk 8 (.frz (rows.map rowD) tr) = some (.frz (rows.map rowD) (tr.fade true), []) := by
        show (match mapK (snap false blk 7) (rows.map rowD) with | some (ys, k) => some (D.frz ys (tr.fade true), k) | none => none) = _
        rw [mapK_map rows fun x _ => snap_rowD false blk 4 x]
      simp only [mapK, this]
      rfl
    rw [hs, htk]
    simp
  · simp [upd]
  · simp [upd]
  · simp [upd]
  · simp [upd]
  · simp [upd]
  · simp [upd]
  · simp [upd, upds, encM]
  · simp [upd, upds]
  · simp [upd, upds, minRows]
  · simp
  · simp
end Go.Eng.E3

namespace Go.Eng.E3
open Go Go.Eng Go.Proofs
set_option maxRecDepth 100000
attribute [local simp] execR runOps stepOp wantedD evalOp opd upd St.put Eff.apply upds looseOk FP.free FP.idle apart Eff.fp ofVal loadD storeD partD setPart indexAddrD isShift arith unD callOp mapO D.okc pickD buildable buildD placeD convD
set_option linter.unusedSimpArgs false
set_option maxHeartbeats 4000000

def drawW (es : List Int) (ins : Nat) (n : Nat) : List Int := (es.take n).map fun e => e.tmod ins

theorem mu18 : E.pol.mu 18 62 = false := by decide

structure I18 (es : List Int) (ins n : Nat) (k : Nat) (st : St) : Prop where
  le : k ≤ n
  h1 : st.A 1 = .int .i64 ins
  h2 : st.A 2 = .ptr 0 0 0
  h5 : ∃ tk, st.A 5 = .frz ((drawW es ins (n - k)).map (D.int .i64)) tk ∧ TokB st.h.blk tk 1 st.h.next ∧ (tk = .nil ↔ n - k = 0)
  h6 : st.A 6 = .int .i64 ((n - k : Nat) : Int)
  hb : st.h.blk 0 = .live 1 [.agg [.frz (es.map (D.int .u8)) .unk]]
  hn : 1 ≤ st.h.next

theorem spec18 {es : List Int} {ins : Nat} (he : ∀ e ∈ es, 0 ≤ e ∧ e < 256) (hi1 : 1 ≤ ins) (hi2 : ins ≤ 16) :
    bodyR 18 [.agg [.frz (es.map (D.int .u8)) .unk], .int .i64 ins] = some (.frz ((drawW es ins (min es.length 12)).map (D.int .i64)) (tkA (drawW es ins (min es.length 12)))) := by
  refine bodyR_V (run18 _ _ (by simp)) ?_
  unfold b18
  refine .then xr18_0 (by simp [o18_0, builtinD, lenD, pD, argA]; rfl) ?_
  refine .then xr18_1 (by simp [o18_1, builtinD, lenD, pD, argA]; rfl) ?_
  refine .assoc (.then xr18_2 (by simp [o18_2, builtinD, lenD, pD, argA]; rfl) ?_)
  obtain ⟨n, hn⟩ : ∃ n, n = min es.length 12 := ⟨_, rfl⟩
  rw [← hn]
  refine .seq (.block (V.count (I18 es ins n) ?_ ?_ n _ ⟨Nat.le_refl _, by simp [upd, argA], by simp [upd], ⟨.nil, by simp [upd, drawW], .inl rfl, by simp⟩, by simp [upd], by simp [upd, upds], by simp⟩))
  · rintro k ⟨A, h⟩ ⟨le, h1, h2, ⟨tk, h5, ht, htn⟩, h6, hb, hN⟩
    have hlt : n - (k + 1) < n := by omega
    generalize hi : n - (k + 1) = i at *
    have hk' : n - k = i + 1 := by omega
    have hwr : IntKind.i64.wrap ((i : Int) + 1) = ((i + 1 : Nat) : Int) := by rw [wrap_id] <;> omega
    have hil : i < es.length := by omega
    have hi12 : i < 12 := by omega
    have hi12I : (i : Int) < 12 := by omega
    have hilI : (i : Int) < es.length := by omega
    have hei := he _ (List.getElem_mem hil)
    have hins0 : ¬ (ins : Int) = 0 := by omega
    have hinsN : ¬ ins = 0 := by omega
    have htm : es[i].tmod ins = es[i] % ins := Int.tmod_eq_emod_of_nonneg hei.1
    have w1 : IntKind.i64.wrap es[i] = es[i] := wrap_id (by omega) (by omega)
    have hwo : drawW es ins (i + 1) = drawW es ins i ++ [es[i].tmod ins] := by
      unfold drawW; rw [List.take_succ_eq_append_getElem hil, List.map_append]; rfl
    have hwl : (drawW es ins i).length ≤ 12 := by simp [drawW]; omega
    generalize drawW es ins i = out at *
    simp only at h1 h2 h5 h6 hb hN ht
    rw [cl18_0]
    refine .assoc (.then xr18_3 (by simp [o18_3, builtinD, lenD, pD, argA, h2, h6, hb, hilI, hil, hi12I, hi12]; rfl) ?_)
    refine .head (v := true) (by simp [opd, upd, hil, hi12]) (fun _ => ?_) (fun hf => by cases hf)
    have ht2 : TokB h.blk tk 1 (h.next + 9) := ht.mono (by omega) (fun b _ hb => hb)
    have ha : ∀ s (x : Int), builtinD E.T (E.pol.mu 18) s h.blk .append [62, 62] [.frz (out.map (D.int .i64)) tk, .frz [.int .i64 x] .exact] = some { v := .frz (out.map (D.int .i64) ++ [.int .i64 x]) (.own s 1), wr := tokWr tk s, rd := tokRd tk } := fun s x => by
      have := app62 (mu := E.pol.mu 18) (s := s) (blk := h.blk) (xs := out) (tk := tk) (tk' := .exact) (x := x) mu18 ht2 (by omega)
      simpa using this
    have hk0 : ∀ s, ¬ 0 = s → upds h.blk (tokWr tk s) 0 = h.blk 0 := fun s hs => tokWr_keep ht2 (by rw [hb]; simp) hs
    refine .seq (.block (.reg xr18_5 (by simp [o18_5, pD, argA, h1, h2, h5, h6, hb, hilI, hil, hins0, hinsN, convD, w1, ha, mu18, mapK, snapDepth, snap_int, kills]; rfl) ?_))
    refine .reg xr18_4 (by simp [o18_4, builtinD, lenD, pD, argA, h6]; rfl) ⟨by omega, ?_, ?_, ⟨.own (h.next + 9 + 10) 1, ?_, ?_, by simp; omega⟩, ?_, ?_, ?_⟩
    · simp [upd, h1]
    · simp [upd, h2]
    · simp [upd, hk', hwo]
    · exact TokB.grow (by simp <;> omega)
    · simp [upd, hk', hwr]
    · simpa [upds] using (hk0 (h.next + 9 + 10) (by omega)).trans hb
    · simp <;> omega
  · rintro ⟨A, h⟩ ⟨le, h1, h2, ⟨tk, h5, ht, htn⟩, h6, hb, hN⟩
    simp only at h1 h2 h5 h6 hb hN ht
    rw [Nat.sub_zero] at h5 h6 htn
    rw [cl18_0]
    have hc : (decide (n < es.length) && decide (n < 12)) = false := by
      simp only [Bool.and_eq_false_iff, decide_eq_false_iff_not]; omega
    by_cases hne : n < es.length
    · have hn12 : ¬ n < 12 := by omega
      have hn12I : ¬ (n : Int) < 12 := by omega
      have hneI : (n : Int) < es.length := by omega
      refine .assoc (.then xr18_3 (by simp [o18_3, builtinD, lenD, pD, argA, h2, h6, hb, hne, hn12, hn12I, hneI]; rfl) ?_)
      refine .head (v := false) (by simp [opd, upd, hn12, hne]) (fun hf => by cases hf) (fun _ => ?_)
      refine .then xr18_6 (by simp [o18_6, builtinD, lenD, pD, argA, h5]; rfl) (.ret ⟨_, by simp [resultsD, mapO, resultD, upd]; rfl, ?_⟩)
      rw [show snapDepth = 7 + 2 from rfl, snap_ints]
      have : Tok.fade true tk = tkA (drawW es ins n) := by
        rcases ht with rfl | ⟨o, rfl, _, _⟩
        · have := htn.1 rfl; omega
        · cases hq : drawW es ins n with
          | nil => have : (drawW es ins n).length = n := by simp [drawW]; omega
                   rw [hq] at this; simp at this; omega
          | cons _ _ => rfl
      simp [this]
    · have hneI : ¬ (n : Int) < es.length := by omega
      refine .assoc (.then xr18_3 (by simp [o18_3, builtinD, lenD, pD, argA, h2, h6, hb, hne, hneI]; rfl) ?_)
      refine .head (v := false) (by simp [opd, upd, hne]) (fun hf => by cases hf) (fun _ => ?_)
      refine .then xr18_6 (by simp [o18_6, builtinD, lenD, pD, argA, h5]; rfl) (.ret ⟨_, by simp [resultsD, mapO, resultD, upd]; rfl, ?_⟩)
      rw [show snapDepth = 7 + 2 from rfl, snap_ints]
      have : Tok.fade true tk = tkA (drawW es ins n) := by
        rcases ht with rfl | ⟨o, rfl, _, _⟩
        · have := htn.1 rfl; subst this; rfl
        · have hq : n ≠ 0 := fun e => by have := htn.2 e; cases this
          cases hq' : drawW es ins n with
          | nil => have : (drawW es ins n).length = n := by simp [drawW]; omega
                   rw [hq'] at this; simp at this; omega
          | cons _ _ => rfl
      simp [this]
end Go.Eng.E3

namespace Go.Eng.E3
open Go Go.Eng Go.Proofs
set_option maxRecDepth 100000
attribute [local simp] execR runOps stepOp wantedD evalOp opd upd St.put Eff.apply upds looseOk FP.free FP.idle apart Eff.fp ofVal loadD storeD partD setPart indexAddrD isShift arith unD callOp mapO D.okc pickD buildable buildD placeD convD
set_option linter.unusedSimpArgs false
set_option maxHeartbeats 4000000

/-- Of a machine's form, but for its edges. -/
structure Shape (m : M) : Prop where
  i1 : 1 ≤ m.ins
  i2 : m.ins ≤ 16
  o1 : 1 ≤ m.outs
  o2 : m.outs ≤ 16
  r1 : 1 ≤ m.rows.length
  r2 : m.rows.length ≤ 64
  len : ∀ r ∈ m.rows, r.length = m.ins

structure F50 (c : M) (st : St) : Prop where
  h1 : st.A 1 = .ptr 0 0 0
  hb : st.h.blk 0 = .live 3 [encM c]
  hn : 1 ≤ st.h.next

structure J50 (c : M) (s : Nat) (hs : s < c.rows.length) (j : Nat) (st : St) : Prop where
  le : j ≤ c.ins
  f : F50 c st
  h3 : st.A 3 = .int .i64 s
  h4 : st.A 4 = .int .i64 ((c.ins - j : Nat) : Int)
  ok : ∀ e ∈ c.rows[s].take (c.ins - j), EdgeOk c e

def Ret50 (c : M) (st : St) : Prop := ∃ r : Int, st.A 2 = .int .i64 r ∧ (r = 0 → Valid c)

theorem loop50b {c : M} (hv : Shape c) {s : Nat} (hs : s < c.rows.length) {Q : Po} (hr : ∀ q, Ret50 c q → Q.r q) (hQ : ∀ q, J50 c s hs 0 q → Q.x 2 q) (j : Nat) (q : St) (hI : J50 c s hs j q) : V E 50 95 (.loop l50_1) q Q := by
  have i2 := hv.i2
  have r2 := hv.r2
  refine V.count (J50 c s hs) ?_ ?_ j q hI
  · rintro j ⟨A, h⟩ ⟨le, ⟨h1, hb, hn⟩, h3, h4, ok⟩
    have hlt : c.ins - (j + 1) < c.ins := by omega
    generalize hi : c.ins - (j + 1) = i at *
    have hk' : c.ins - j = i + 1 := by omega
    have hwr : IntKind.i64.wrap ((i : Int) + 1) = ((i + 1 : Nat) : Int) := by rw [wrap_id] <;> omega
    have hrl : c.rows[s].length = c.ins := hv.len _ (List.getElem_mem hs)
    have hil : i < c.rows[s].length := by omega
    have htk : c.rows[s].take (i + 1) = c.rows[s].take i ++ [c.rows[s][i]] := List.take_succ_eq_append_getElem hil
    obtain ⟨t, o, he⟩ : ∃ t o, c.rows[s][i] = (t, o) := ⟨_, _, rfl⟩
    have he1 : c.rows[s][i].1 = t := by rw [he]
    have he2 : c.rows[s][i].2 = o := by rw [he]
    simp only at h1 h3 h4 hb hn
    have hb0 : ∀ j, (0 = h.next + j) = False := fun j => by simp; omega
    have hb1 : (0 = h.next) = False := by simp; omega
    rw [cl50_1]
    refine .assoc (.then xr50_11 (by simp [o50_11, builtinD, lenD, pD, argA, h1, h4, hb, encM]; rfl) ?_)
    refine .head (by simp [opd, upd]; rfl) (fun _ => ?_) (fun hf => by simp [hlt] at hf)
    have next : ∀ (A2 : Nat → D) (h2 : H), (∀ t, t < 5 → A2 t = A t) → h2.blk 0 = h.blk 0 → h.next ≤ h2.next → EdgeOk c (t, o) → V E 50 95 r50_12 ⟨A2, h2⟩ (Q.upto (J50 c s hs j)) := by
      intro A2 h2 hA hbk hnx hok
      have g4 := (hA 4 (by omega)).trans h4
      refine .reg xr50_12 (by simp [o50_12, builtinD, lenD, pD, argA, g4]; rfl) ⟨by omega, ⟨?_, ?_, ?_⟩, ?_, ?_, ?_⟩
      · simp [upd, hA, h1]
      · simpa [upds] using hbk.trans hb
      · simp <;> omega
      · simp [upd, hA, h3]
      · simp [upd, hk', hwr]
      · rw [hk', htk]
        intro e hem
        rcases List.mem_append.1 hem with hem | hem
        · exact ok e hem
        · simp at hem; subst hem; rw [he]; exact hok
    have bad : ∀ (A2 : Nat → D) (h2 : H) (Q' : Po), (∀ q, Ret50 c q → Q'.r q) → V E 50 95 (.seq r50_16 .ret) ⟨A2, h2⟩ Q' := by
      intro A2 h2 Q' hq
      refine .then xr50_16 (by simp [o50_16, builtinD, lenD, pD, argA]; rfl) (.ret (hq _ ⟨1, by simp [upd], fun e => absurd e (by decide)⟩))
    refine .seq (.block (.then xr50_13 (by simp [o50_13, builtinD, lenD, pD, argA, h1, h3, h4, hb, encM, hs, hrl, hlt, hil, rowD, hb0, hb1, he1, he2]; rfl) ?_))
    have e2 : ∀ x y, upd (upd h.blk (h.next + 4 + 8) x) (h.next + 4 + 8) y (h.next + 4 + 8) = y := fun x y => by simp
    have e3 : ∀ x y, upd (upd h.blk (h.next + 4 + 8) x) (h.next + 4 + 8) y 0 = h.blk 0 := fun x y => by
      simp [upd, show 0 ≠ h.next + 4 + 8 by omega]
    generalize hbk : upd (upd h.blk (h.next + 4 + 8) (.live 2 [.agg [.int .i64 0, .int .i64 0]])) (h.next + 4 + 8) (.live 2 [.agg [.int .i64 t, .int .i64 o]]) = blk1 at *
    have e2' : blk1 (h.next + 4 + 8) = .live 2 [.agg [.int .i64 t, .int .i64 o]] := by rw [← hbk]; exact e2 _ _
    have e3' : blk1 0 = .live 3 [encM c] := by rw [← hbk, e3]; exact hb
    have more : ∀ (A2 : Nat → D) (nx : Nat), (∀ t, t < 5 → A2 t = A t) → A2 5 = .ptr (h.next + 4 + 8) 0 0 → h.next ≤ nx → V E 50 95 (.seq r50_15 (.cond (.tmp 94) (.seq r50_16 .ret) .skip)) ⟨A2, ⟨nx, blk1⟩⟩ ((Q.upto (J50 c s hs j)).upto (fun s' => V E 50 95 r50_12 s' (Q.upto (J50 c s hs j))) |>.within 3) := by
      intro A2 nx hA h5 hnx
      have g1 := (hA 1 (by omega)).trans h1
      by_cases t0 : t < 0
      · refine .then xr50_15 (by simp [o50_15, builtinD, lenD, pD, argA, g1, h5, e2', e3', encM, t0]; rfl) ?_
        exact .cond (v := true) (by simp [opd, upd]) (fun _ => bad _ _ _ hr) (fun x => by cases x)
      · by_cases t1 : (c.rows.length : Int) ≤ t
        · refine .then xr50_15 (by simp [o50_15, builtinD, lenD, pD, argA, g1, h5, e2', e3', encM, t0, t1]; rfl) ?_
          exact .cond (v := true) (by simp [opd, upd]) (fun _ => bad _ _ _ hr) (fun x => by cases x)
        · by_cases o0 : o < 0
          · refine .then xr50_15 (by simp [o50_15, builtinD, lenD, pD, argA, g1, h5, e2', e3', encM, t0, t1, o0]; rfl) ?_
            exact .cond (v := true) (by simp [opd, upd]) (fun _ => bad _ _ _ hr) (fun x => by cases x)
          · by_cases o1 : (c.outs : Int) ≤ o
            · refine .then xr50_15 (by simp [o50_15, builtinD, lenD, pD, argA, g1, h5, e2', e3', encM, t0, t1, o0, o1]; rfl) ?_
              exact .cond (v := true) (by simp [opd, upd]) (fun _ => bad _ _ _ hr) (fun x => by cases x)
            · refine .then xr50_15 (by simp [o50_15, builtinD, lenD, pD, argA, g1, h5, e2', e3', encM, t0, t1, o0, o1]; rfl) ?_
              refine .cond (v := false) (by simp [opd, upd]) (fun x => by cases x) (fun _ => .skip ?_)
              refine next _ _ (fun t ht => ?_) (by simpa using e3'.trans hb.symm) (by simp; omega) (.inr ⟨by simp only; omega, by simp only; omega, by simp only; omega, by simp only; omega⟩)
              rw [← hA t ht]
              simp [upd, show ∀ c, 72 ≤ c → ¬ t = c from fun c h => by omega]
    by_cases t1 : t = -1
    · by_cases o1 : o = -1
      · refine .assoc (.then xr50_14 (by simp [o50_14, builtinD, lenD, pD, argA, e2', t1, o1]; rfl) ?_)
        refine .seq (.cond (v := true) (by simp [opd, upd]) (fun _ => .exit ?_) (fun x => by cases x))
        refine next _ _ (fun t ht => ?_) (by simpa using e3'.trans hb.symm) (by simp; omega) (.inl (by rw [t1, o1]))
        simp [upd, show t ≠ 5 by omega, show ∀ c, 50 ≤ c → ¬ t = c from fun c h => by omega]
      · have o1' : (o == -1) = false := by simp [o1]
        refine .assoc (.then xr50_14 (by simp [o50_14, builtinD, lenD, pD, argA, e2', t1, o1']; rfl) ?_)
        refine .seq (.cond (v := false) (by simp [opd, upd, o1]) (fun x => by cases x) (fun _ => .skip ?_))
        refine more _ _ (fun t ht => ?_) (by simp [upd]) (by omega)
        simp [upd, show t ≠ 5 by omega, show ∀ c, 50 ≤ c → ¬ t = c from fun c h => by omega]
    · have t1' : (t == -1) = false := by simp [t1]
      refine .assoc (.then xr50_14 (by simp [o50_14, builtinD, lenD, pD, argA, e2', t1']; rfl) ?_)
      refine .seq (.cond (v := false) (by simp [opd, upd]) (fun x => by cases x) (fun _ => .skip ?_))
      refine more _ _ (fun t ht => ?_) (by simp [upd]) (by omega)
      simp [upd, show t ≠ 5 by omega, show ∀ c, 50 ≤ c → ¬ t = c from fun c h => by omega]
  · rintro ⟨A, h⟩ ⟨le, ⟨h1, hb, hn⟩, h3, h4, ok⟩
    simp only at h1 h3 h4 hb hn
    rw [cl50_1]
    refine .assoc (.then xr50_11 (by simp [o50_11, builtinD, lenD, pD, argA, h1, h4, hb, encM]; rfl) ?_)
    refine .head (by simp [opd, upd]; rfl) (fun hf => by simp at hf) (fun _ => hQ _ ⟨by omega, ⟨?_, ?_, ?_⟩, ?_, ?_, ok⟩)
    · simp [upd, h1]
    · simpa [upds] using hb
    · simp <;> omega
    · simp [upd, h3]
    · simp [upd, h4]

structure I50 (c : M) (k : Nat) (st : St) : Prop where
  le : k ≤ c.rows.length
  f : F50 c st
  h3 : st.A 3 = .int .i64 ((c.rows.length - k : Nat) : Int)
  ok : ∀ r ∈ c.rows.take (c.rows.length - k), ∀ e ∈ r, EdgeOk c e

theorem spec50 {c : M} (hv : Shape c) : ∃ r : Int, bodyR 50 [encM c] = some (.int .i64 r) ∧ (r = 0 → Valid c) := by
  have i1 := hv.i1
  have i2 := hv.i2
  have o1 := hv.o1
  have o2 := hv.o2
  have r1 := hv.r1
  have r2 := hv.r2
  have q1 : ¬ (16 : Int) < c.ins := by omega
  have q2 : ¬ (16 : Int) < c.outs := by omega
  have q3 : ¬ (64 : Int) < c.rows.length := by omega
  have q4 : ¬ (c.ins : Int) < 1 := by omega
  have q5 : ¬ (c.outs : Int) < 1 := by omega
  have q6 : ¬ (c.rows.length : Int) = 0 := by omega
  have q7 : ¬ c.rows.length = 0 := by omega
  have q8 : ¬ c.rows = [] := fun e => by rw [e] at r1; simp at r1
  have key : V E 50 95 b50 ⟨argA [encM c], H.empty⟩ ⟨fun _ => False, Ret50 c, fun _ _ => False, fun _ _ => False⟩ := by
    unfold b50
    refine .then xr50_0 (by simp [o50_0, builtinD, lenD, pD, argA, encM]; rfl) ?_
    refine .assoc (.then xr50_1 (by simp [o50_1, builtinD, lenD, pD, argA, encM, q1, q2, q3]; rfl) ?_)
    refine .seq (.cond (v := false) (by simp [opd, upd]) (fun ht => by cases ht) (fun _ => .skip ?_))
    refine .assoc (.then xr50_3 (by simp [o50_3, builtinD, lenD, pD, argA, encM, q4, q5, q6, q7, q8]; rfl) ?_)
    refine .seq (.cond (v := false) (by simp [opd, upd, q6, q7, q8]) (fun ht => by cases ht) (fun _ => .skip ?_))
    refine .assoc (.then xr50_5 (by simp [o50_5, builtinD, lenD, pD, argA]; rfl) ?_)
    refine .seq (.block (V.count (I50 c) ?_ ?_ c.rows.length _ ⟨Nat.le_refl _, ⟨?_, ?_, ?_⟩, ?_, ?_⟩))
    · rintro k ⟨A, h⟩ ⟨le, ⟨h1, hb, hn⟩, h3, ok⟩
      have hlt : c.rows.length - (k + 1) < c.rows.length := by omega
      generalize hi : c.rows.length - (k + 1) = i at *
      have hk' : c.rows.length - k = i + 1 := by omega
      have hwr : IntKind.i64.wrap ((i : Int) + 1) = ((i + 1 : Nat) : Int) := by rw [wrap_id] <;> omega
      have hrl : c.rows[i].length = c.ins := hv.len _ (List.getElem_mem hlt)
      have htk : c.rows.take (i + 1) = c.rows.take i ++ [c.rows[i]] := List.take_succ_eq_append_getElem hlt
      simp only at h1 h3 hb hn
      rw [cl50_0]
      refine .assoc (.then xr50_6 (by simp [o50_6, builtinD, lenD, pD, argA, h1, h3, hb, encM]; rfl) ?_)
      refine .head (by simp [opd, upd]; rfl) (fun _ => ?_) (fun hf => by simp [hlt] at hf)
      refine .seq (.block (.assoc (.then xr50_8 (by simp [o50_8, builtinD, lenD, pD, argA, h1, h3, hb, encM, hlt, rowD, hrl]; rfl) ?_)))
      refine .seq (.cond (v := false) (by simp [opd, upd]) (fun ht => by cases ht) (fun _ => .skip ?_))
      refine .then xr50_10 (by simp [o50_10, builtinD, lenD, pD, argA]; rfl) ?_
      refine .block (loop50b hv hlt (fun q hq => hq) (fun q hq => ?_) c.ins _ ⟨Nat.le_refl _, ⟨?_, ?_, ?_⟩, ?_, ?_, ?_⟩)
      · obtain ⟨A1, h1'⟩ := q
        obtain ⟨_, ⟨g1, gb, gn⟩, g3, g4, gok⟩ := hq
        simp only at g1 g3 g4 gb gn
        show V E 50 95 r50_7 _ _
        refine .reg xr50_7 (by simp [o50_7, builtinD, lenD, pD, argA, g3]; rfl) ⟨by omega, ⟨?_, ?_, ?_⟩, ?_, ?_⟩
        · simp [upd, g1]
        · simpa [upds] using gb
        · simp <;> omega
        · simp [upd, hk', hwr]
        · rw [hk', htk]
          intro r hr
          rcases List.mem_append.1 hr with hr | hr
          · exact ok r hr
          · simp at hr; subst hr
            rw [Nat.sub_zero, ← hrl, List.take_length] at gok
            exact gok
      · simp [upd, h1]
      · simpa [upds] using hb
      · simp <;> omega
      · simp [upd, h3]
      · simp [upd]
      · simp
    · rintro ⟨A, h⟩ ⟨le, ⟨h1, hb, hn⟩, h3, ok⟩
      simp only at h1 h3 hb hn
      rw [cl50_0]
      refine .assoc (.then xr50_6 (by simp [o50_6, builtinD, lenD, pD, argA, h1, h3, hb, encM]; rfl) ?_)
      refine .head (by simp [opd, upd]; rfl) (fun hf => by simp at hf) (fun _ => ?_)
      refine .then xr50_17 (by simp [o50_17, builtinD, lenD, pD, argA]; rfl) (.ret ⟨0, by simp [upd], fun _ => ⟨i1, i2, o1, o2, r1, r2, hv.len, ?_⟩⟩)
      rw [Nat.sub_zero, List.take_length] at ok
      exact ok
    · simp [upd]
    · simp [upd, upds, encM]
    · simp
    · simp [upd]
    · simp
  obtain ⟨x, s', e1, e2⟩ := key
  cases x with
  | normal => exact e2.elim
  | exit i => exact e2.elim
  | goto l => exact e2.elim
  | ret =>
    obtain ⟨r, hr, hv'⟩ := e2
    refine ⟨r, ?_, hv'⟩
    exact bodyR_V (run50 _ _ (by simp)) ⟨_, _, e1, ⟨_, by simp [resultsD, mapO, resultD, hr]; rfl, by simp [snap, snapDepth]⟩⟩
end Go.Eng.E3

namespace Go.Eng.E3
open Go Go.Eng Go.Proofs
set_option maxRecDepth 100000
attribute [local simp] execR runOps stepOp wantedD evalOp opd upd St.put Eff.apply upds looseOk FP.free FP.idle apart Eff.fp ofVal loadD storeD partD setPart indexAddrD isShift arith unD callOp mapO D.okc pickD buildable buildD placeD convD
set_option linter.unusedSimpArgs false

/-! ### Matrices of edges in the heap -/

def rowE (n c : Nat) : D := .sl c 2 0 n false

def MatE (h : H) (v : D) (mk : List (List (Int × Int))) (n lo hi : Nat) : Prop :=
  (mk = [] ∧ v = .frz [] .nil) ∨ ∃ (b : Nat) (bs : List Nat) (_ : Unit), v = .sl b 1 0 mk.length false ∧ h.blk b = .live 1 (bs.map (rowE n)) ∧ bs.length = mk.length ∧ lo ≤ b ∧ b < hi ∧
    (∀ c ∈ bs, lo ≤ c ∧ c < hi ∧ c ≠ b) ∧ bs.Nodup ∧ ∀ (i c : Nat) (r : List (Int × Int)), bs[i]? = some c → mk[i]? = some r → h.blk c = .live 2 (r.map pD) ∧ r.length = n

theorem MatE.frame {h h' : H} {v : D} {mk : List (List (Int × Int))} {n lo hi : Nat} (m : MatE h v mk n lo hi) (e : ∀ b, lo ≤ b → b < hi → h'.blk b = h.blk b) : MatE h' v mk n lo hi := by
  rcases m with m | ⟨b, bs, ex, h1, h2, h3, h4, h5, h6, h7, h8⟩
  · exact .inl m
  · refine .inr ⟨b, bs, ex, h1, by rw [e b h4 h5]; exact h2, h3, h4, h5, h6, h7, fun i c r hc hr => ?_⟩
    obtain ⟨q1, q2, _⟩ := h6 c (List.mem_of_getElem? hc)
    rw [e c q1 q2]
    exact h8 i c r hc hr

theorem MatE.wide {h : H} {v : D} {mk : List (List (Int × Int))} {n lo hi hi' : Nat} (m : MatE h v mk n lo hi) (e : hi ≤ hi') : MatE h v mk n lo hi' := by
  rcases m with m | ⟨b, bs, ex, h1, h2, h3, h4, h5, h6, h7, h8⟩
  · exact .inl m
  · exact .inr ⟨b, bs, ex, h1, h2, h3, h4, by omega, fun c hc => ⟨(h6 c hc).1, by have := (h6 c hc).2.1; omega, (h6 c hc).2.2⟩, h7, h8⟩

theorem MatE.nx {h : H} {v : D} {mk : List (List (Int × Int))} {n lo hi hi' : Nat} (m : MatE h v mk n lo hi) (k : Nat) (e : hi ≤ hi') : MatE ⟨k, h.blk⟩ v mk n lo hi' := (m.frame fun _ _ _ => rfl).wide e

theorem MatE.snap {h : H} {v : D} {mk : List (List (Int × Int))} {n lo hi : Nat} (m : MatE h v mk n lo hi) (kp : Bool) (k : Nat) : ∃ (ks : List Nat) (tk : Tok), Eng.snap kp h.blk (k + 4) v = some (.frz (mk.map rowD) tk, ks) ∧ (kp = false ∨ mk ≠ [] → tk = .unk) := by
  rcases m with ⟨rfl, rfl⟩ | ⟨b, bs, ex, rfl, h2, h3, h4, h5, h6, h7, h8⟩
  · exact ⟨[], _, rfl, fun hk => Or.elim hk (fun e => by rw [e]; rfl) (fun e => absurd rfl e)⟩
  · have hrow : ∀ (i c : Nat) (r : List (Int × Int)), bs[i]? = some c → mk[i]? = some r → ∃ q, Eng.snap false h.blk (k + 3) (rowE n c) = some (rowD r, q) := fun i c r hc hr => by
      obtain ⟨e1, e2⟩ := h8 i c r hc hr
      refine ⟨[c], ?_⟩
      show (match (h.blk c).row with | some (e, xs) => (if e = 2 ∧ 0 + n ≤ xs.length then (match mapK (Eng.snap false h.blk (k + 2)) ((xs.drop 0).take n) with | some (ys, k) => some (D.frz ys (if false && false then .exact else .unk), c :: k) | none => none) else none) | none => none) = _
      rw [e1]
      simp only [row_live, List.length_map, List.drop_zero]
      rw [if_pos ⟨trivial, by omega⟩, List.take_of_length_le (by simp; omega), mapK_map r fun x _ => snap_pD false h.blk k x]
      rfl
    obtain ⟨q, hq⟩ := mapK_two (f := Eng.snap false h.blk (k + 3)) (g := rowE n) (u := rowD) bs mk h3 hrow
    refine ⟨b :: q, .unk, ?_, fun _ => rfl⟩
    show (match (h.blk b).row with | some (e, xs) => (if e = 1 ∧ 0 + mk.length ≤ xs.length then (match mapK (Eng.snap false h.blk (k + 3)) ((xs.drop 0).take mk.length) with | some (ys, k) => some (D.frz ys (if kp && false then .exact else .unk), b :: k) | none => none) else none) | none => none) = _
    rw [h2]
    simp only [row_live, List.length_map, List.drop_zero]
    rw [if_pos ⟨trivial, by omega⟩, List.take_of_length_le (by simp; omega), hq]
    simp only [Bool.and_false, Bool.false_eq_true, if_false]

theorem MatE.lower {h : H} {v : D} {mk : List (List (Int × Int))} {n lo lo' hi : Nat} (m : MatE h v mk n lo hi) (e : lo' ≤ lo) : MatE h v mk n lo' hi := by
  rcases m with m | ⟨b, bs, ex, h1, h2, h3, h4, h5, h6, h7, h8⟩
  · exact .inl m
  · exact .inr ⟨b, bs, ex, h1, h2, h3, by omega, h5, fun c hc => ⟨by have := (h6 c hc).1; omega, (h6 c hc).2⟩, h7, h8⟩

/-- One more row, in a new block. -/
theorem MatE.push {h h' : H} {v : D} {mk : List (List (Int × Int))} {n lo hi s c : Nat} {r : List (Int × Int)} (m : MatE h v mk n lo hi) (hh : lo ≤ hi) (hc : hi ≤ c) (hs : hi ≤ s) (hcs : c ≠ s) (hr : r.length = n) (hb : h'.blk c = .live 2 (r.map pD))
    (hrest : ∀ b, lo ≤ b → b < hi → v ≠ .sl b 1 0 mk.length false → h'.blk b = h.blk b)
    (hsb : h'.blk s = .live 1 ((match v with | .sl b _ _ _ _ => (match h.blk b with | .live _ xs => xs | _ => []) | _ => []) ++ [rowE n c])) : MatE h' (.sl s 1 0 (mk.length + 1) false) (mk ++ [r]) n lo (max c s + 1) := by
  rcases m with ⟨rfl, rfl⟩ | ⟨b, bs, ex, rfl, h2, h3, h4, h5, h6, h7, h8⟩
  · refine .inr ⟨s, [c], (), rfl, hsb, rfl, by omega, by omega, fun x hx => ?_, by simp, fun i x y hx hy => ?_⟩
    · simp at hx; subst hx; exact ⟨by omega, by omega, hcs⟩
    · cases i with
      | zero => simp at hx hy; subst hx; subst hy; exact ⟨hb, hr⟩
      | succ i => simp at hx
  · have hcn : c ∉ bs := fun hx => by have := (h6 c hx).2.1; omega
    refine .inr ⟨s, bs ++ [c], (), by simp, ?_, by simp [h3], by omega, by omega, fun x hx => ?_, ?_, fun i x y hx hy => ?_⟩
    · rw [hsb]; simp only [h2]; simp
    · rcases List.mem_append.1 hx with hx | hx
      · have := h6 x hx; exact ⟨this.1, by omega, by omega⟩
      · simp at hx; subst hx; exact ⟨by omega, by omega, hcs⟩
    · rw [List.nodup_append]
      exact ⟨h7, by simp, fun a ha b hb e => by simp at hb; subst hb; subst e; exact hcn ha⟩
    · rcases Nat.lt_or_ge i bs.length with hi | hi
      · rw [List.getElem?_append_left hi] at hx
        rw [List.getElem?_append_left (by omega)] at hy
        have hq := h8 i x y hx hy
        have hm := h6 x (List.mem_of_getElem? hx)
        rw [hrest x hm.1 hm.2.1 (fun he => by injection he with he1; exact hm.2.2 he1.symm)]
        exact hq
      · rw [List.getElem?_append_right hi] at hx
        rw [List.getElem?_append_right (by omega), ← h3] at hy
        cases hj : i - bs.length with
        | zero => rw [hj] at hx hy; simp at hx hy; subst hx; subst hy; exact ⟨hb, hr⟩
        | succ j => rw [hj] at hx; simp at hx

/-- One cell is set. -/
theorem MatE.put {h h' : H} {b ln n lo hi i c : Nat} {bs : List Nat} {mk : List (List (Int × Int))} {r : List (Int × Int)} (m : MatE h (.sl b 1 0 ln false) mk n lo hi) (hbs : h.blk b = .live 1 (bs.map (rowE n))) (hc : bs[i]? = some c) (hi' : i < mk.length)
    (hr : r.length = n) (hb : h'.blk c = .live 2 (r.map pD)) (hrest : ∀ x, x ≠ c → h'.blk x = h.blk x) : MatE h' (.sl b 1 0 ln false) (mk.set i r) n lo hi := by
  rcases m with ⟨_, hv⟩ | ⟨b', bs', ex', hv, h2, h3, h4, h5, h6, h7, h8⟩
  · cases hv
  · injection hv with e1 _ _ e2 _
    subst e1; subst e2
    have : bs' = bs := by
      rw [hbs] at h2
      injection h2 with _ h2
      have inj : ∀ (x y : List Nat), x.map (rowE n) = y.map (rowE n) → x = y := by
        intro x
        induction x with
        | nil => intro y hy; cases y with
          | nil => rfl
          | cons _ _ => simp at hy
        | cons a x ih => intro y hy; cases y with
          | nil => simp at hy
          | cons d y =>
            rw [List.map_cons, List.map_cons] at hy
            injection hy with hy1 hy2
            injection hy1 with hy1
            rw [hy1, ih y hy2]
      exact (inj _ _ h2).symm
    subst this
    have hcb : c ≠ b := (h6 c (List.mem_of_getElem? hc)).2.2
    refine .inr ⟨b, bs', (), by simp, by rw [hrest b (fun e => hcb e.symm)]; exact h2, by simp [h3], h4, h5, h6, h7, fun j x y hx hy => ?_⟩
    by_cases hj : j = i
    · subst hj
      rw [List.getElem?_set_self hi'] at hy
      rw [hc] at hx
      cases hx; cases hy
      exact ⟨hb, hr⟩
    · rw [List.getElem?_set_ne (fun e => hj e.symm)] at hy
      have hne : x ≠ c := fun e => by
        subst e
        have i1 : j < bs'.length := (List.getElem?_eq_some_iff.1 hx).1
        have := (List.getElem?_inj i1 h7).1 (hx.trans hc.symm)
        exact hj this
      rw [hrest x hne]
      exact h8 j x y hx hy
end Go.Eng.E3

namespace Go.Eng.E3
open Go Go.Eng Go.Proofs
set_option maxRecDepth 100000
attribute [local simp] execR runOps stepOp wantedD evalOp opd upd St.put Eff.apply upds looseOk FP.free FP.idle apart Eff.fp ofVal loadD storeD partD setPart indexAddrD isShift arith unD callOp mapO D.okc pickD buildable buildD placeD convD
set_option linter.unusedSimpArgs false
set_option maxHeartbeats 4000000

/-- A machine's rows, as clean data or in the heap below N. -/
def SrcE (h : H) (w : D) (rows : List (List (Int × Int))) (n N : Nat) : Prop := w = .frz (rows.map rowD) .unk ∨ ∃ lo, MatE h w rows n lo N

theorem SrcE.frame {h h' : H} {w : D} {rows : List (List (Int × Int))} {n N : Nat} (s : SrcE h w rows n N) (e : ∀ x, x < N → h'.blk x = h.blk x) : SrcE h' w rows n N := by
  rcases s with s | ⟨lo, s⟩
  · exact .inl s
  · exact .inr ⟨lo, s.frame fun b _ hb => e b hb⟩

theorem mu49a : E.pol.mu 49 72 = true := by decide
theorem mu49b : E.pol.mu 49 32 = true := by decide

theorem cells_pairs (l : List (Int × Int)) : ∀ z ∈ l.map pD, z.cells.length = 2 := fun z hz => by
  obtain ⟨p, _, rfl⟩ := List.mem_map.1 hz; rfl

theorem appS72 {mu : TypeId → Bool} {s a : Nat} {blk : Nat → Blk} {l : List (Int × Int)} {tk : Tok} (hmu : mu 72 = true) (hl : l.length ≤ 64) (hb : blk a = .live 2 []) :
    builtinD E.T mu s blk .append [72, 72] [.sl a 2 0 0 true, .frz (l.map pD) tk] = some { v := .sl s 2 0 l.length false, wr := [(a, .dead), (s, .live 2 (l.map pD))], rd := [a] } := by
  have hn : l.length * 16 * 2 ≤ maxAppend := by simp only [maxAppend]; omega
  have := cells_pairs l
  simp only [builtinD, ok_72, desc_72, if_true, appendD, elem_72, elemsD, hmu, hb, size_55, bytes_55]
  rw [if_pos ⟨trivial, trivial, trivial, by omega, this, by simpa using hn, by decide, by decide, by simp⟩]
  simp
theorem appS72' {mu : TypeId → Bool} {s a c n : Nat} {blk : Nat → Blk} {l : List (Int × Int)} (hmu : mu 72 = true) (hl : l.length = n) (hn : n ≤ 64) (hb : blk a = .live 2 []) (hc : blk c = .live 2 (l.map pD)) (hac : a ≠ c) :
    builtinD E.T mu s blk .append [72, 72] [.sl a 2 0 0 true, .sl c 2 0 n false] = some { v := .sl s 2 0 n false, wr := [(a, .dead), (s, .live 2 (l.map pD))], rd := [a, c] } := by
  subst hl
  have hn : l.length * 16 * 2 ≤ maxAppend := by simp only [maxAppend]; omega
  have := cells_pairs l
  have htk : List.take l.length (l.map pD) = l.map pD := List.take_of_length_le (by simp)
  have he : elemsD blk (.sl c 2 0 l.length false) = some (l.map pD, [c]) := by simp [elemsD, hc, htk]
  simp only [builtinD, ok_72, desc_72, if_true, appendD, elem_72, he, hmu, hb, size_55, bytes_55]
  rw [if_pos ⟨trivial, trivial, trivial, by omega, this, by simpa using hn, by decide, by decide, by simpa using hac⟩]
  simp
theorem appS32 {mu : TypeId → Bool} {s d : Nat} {blk : Nat → Blk} {v : D} (hmu : mu 32 = true) (hv : v.cells.length = 1) (hb : blk d = .live 1 [v]) :
    builtinD E.T mu s blk .append [32, 32] [.frz [] .nil, .sl d 1 0 1 true] = some { v := .sl s 1 0 1 false, wr := [(s, .live 1 [v])], rd := [d] } := by
  simp [builtinD, appendD, elemsD, hmu, hb, hv, maxAppend]
theorem appS32' {mu : TypeId → Bool} {s b d n : Nat} {blk : Nat → Blk} {xs : List D} {v : D} (hmu : mu 32 = true) (hv : v.cells.length = 1) (hd : blk d = .live 1 [v]) (hb : blk b = .live 1 xs) (hn : xs.length = n) (hl : n ≤ 64) (hne : b ≠ d) :
    builtinD E.T mu s blk .append [32, 32] [.sl b 1 0 n false, .sl d 1 0 1 true] = some { v := .sl s 1 0 (n + 1) false, wr := [(b, .dead), (s, .live 1 (xs ++ [v]))], rd := [b, d] } := by
  subst hn
  have : (xs.length + 1) * 24 * 2 ≤ 140737488355328 := by omega
  simp [builtinD, appendD, elemsD, hmu, hb, hd, hv, maxAppend, this, hne]

theorem push49 {A : Nat → D} {h : H} {rows out : List (List (Int × Int))} {ins outs : Int} {n N i : Nat} {w w' : D} (h1 : A 1 = .ptr N 0 0) (h3 : A 3 = .ptr (N + 7) 0 0) (h4 : A 4 = .int .i64 i)
    (hb1 : h.blk N = .live 3 [.agg [.int .i64 ins, .int .i64 outs, w]]) (hb3 : h.blk (N + 7) = .live 3 [.agg [.int .i64 ins, .int .i64 outs, w']]) (hm : MatE h w' out n (N + 9) h.next) (hsrc : SrcE h w rows n N)
    (hi : i < rows.length) (hr : rows.length ≤ 64) (hol : out.length = i) (hn : n ≤ 16) (hrl : ∀ r ∈ rows, r.length = n) (hN : N + 9 ≤ h.next) :
    ∃ A' h' w'', execR E (callI E) 49 o49_5 [(1, 2), (1, 4), (2, 4), (1, 7), (2, 7), (1, 8), (1, 9)] ⟨A, h⟩ = some ⟨A', h'⟩ ∧ (∀ t, t < 5 → A' t = A t) ∧ h'.next = h.next + 13 ∧ (∀ x, x < N + 9 → x ≠ N + 7 → h'.blk x = h.blk x) ∧ h'.blk (N + 7) = .live 3 [.agg [.int .i64 ins, .int .i64 outs, w'']] ∧ MatE h' w'' (out ++ [rows[i]]) n (N + 9) h'.next := by
  have hlen : rows[i].length = n := hrl _ (List.getElem_mem hi)
  have hiI : (i : Int) < rows.length := by omega
  have hlen64 : n ≤ 64 := by omega
  have hb0 : upd h.blk (h.next + 2) (Blk.live 2 []) (h.next + 2) = .live 2 [] := by simp
  have ap1 : ∀ (l : List (Int × Int)) tk s, l.length = n → builtinD E.T (E.pol.mu 49) s (upd h.blk (h.next + 2) (Blk.live 2 [])) .append [72, 72] [.sl (h.next + 2) 2 0 0 true, .frz (l.map pD) tk] = some { v := .sl s 2 0 n false, wr := [(h.next + 2, .dead), (s, .live 2 (l.map pD))], rd := [h.next + 2] } := fun l tk s hl => by
    have := appS72 (tk := tk) (s := s) mu49a (show l.length ≤ 64 by omega) hb0
    rw [hl] at this; exact this
  have ap2 : ∀ c s, c < N → h.blk c = .live 2 (rows[i].map pD) → builtinD E.T (E.pol.mu 49) s (upd h.blk (h.next + 2) (Blk.live 2 [])) .append [72, 72] [.sl (h.next + 2) 2 0 0 true, .sl c 2 0 n false] = some { v := .sl s 2 0 n false, wr := [(h.next + 2, .dead), (s, .live 2 (rows[i].map pD))], rd := [h.next + 2, c] } := fun c s hc hcb =>
    appS72' (s := s) mu49a hlen hlen64 hb0 (by rw [upd_ne _ _ _ _ (by omega)]; exact hcb) (by omega)
  have ap3 : ∀ (blk0 : Nat → Blk) (v : D) d s, v.cells.length = 1 → builtinD E.T (E.pol.mu 49) s (upd blk0 d (.live 1 [v])) .append [32, 32] [.frz [] .nil, .sl d 1 0 1 true] = some { v := .sl s 1 0 1 false, wr := [(s, .live 1 [v])], rd := [d] } := fun blk0 v d s hv => appS32 mu49b hv (by simp)
  have a1 : ∀ j, ¬ N = h.next + j := by omega
  have a2 : ∀ j, ¬ N + 7 = h.next + j := by omega
  have a3 : ∀ j, ¬ h.next + j = N := by omega
  have a4 : ∀ j, ¬ h.next + j = N + 7 := by omega
  have tail : ∀ t, t < 5 → t ≠ 17 ∧ t ≠ 18 ∧ t ≠ 19 ∧ t ≠ 20 ∧ t ≠ 21 ∧ t ≠ 22 ∧ t ≠ 23 ∧ t ≠ 24 ∧ t ≠ 25 ∧ t ≠ 26 ∧ t ≠ 27 ∧ t ≠ 28 := by omega
  have hm' := hm
  rcases hm with ⟨rfl, rfl⟩ | ⟨b, bs, ex, rfl, g2, g3, g4, g5, g6, g7, g8⟩
  · have pushE : ∀ (h' : H), h'.next = h.next + 13 → h'.blk (h.next + 8) = .live 2 (rows[i].map pD) → h'.blk (h.next + 10) = .live 1 [rowE n (h.next + 8)] → MatE h' (.sl (h.next + 10) 1 0 1 false) ([] ++ [rows[i]]) n (N + 9) h'.next := fun h' e1 e2 e3 =>
      .inr ⟨h.next + 10, [h.next + 8], (), by simp, e3, rfl, by omega, by omega, fun c hc => by simp at hc; subst hc; omega, by simp, fun j c r hc hr => by
        cases j with
        | zero => simp at hc hr; subst hc; subst hr; exact ⟨e2, hlen⟩
        | succ j => simp at hc⟩
    rcases hsrc with rfl | ⟨lo, ⟨e0, _⟩ | ⟨sb, sbs, _, rfl, s2, s3, s4, s5, s6, s7, s8⟩⟩
    · refine ⟨_, _, .sl (h.next + 10) 1 0 1 false, by simp [pD, argA, lenD, o49_5, h1, h3, h4, hb1, hb3, hi, hiI, rowD, hlen, hlen64, a1, a2, a3, a4, snapDepth, mapK, mu49a, mu49b, ap1, ap3]; exact ⟨rfl, rfl⟩, ?_, ?_, ?_, ?_, pushE _ rfl ?_ ?_⟩
      · intro t ht; obtain ⟨q1, q2, q3, q4, q5, q6, q7, q8, q9, q10, q11, q12⟩ := tail t ht
        simp [upd, q1, q2, q3, q4, q5, q6, q7, q8, q9, q10, q11, q12]
      · rfl
      · intro x hx hx7; have e : ∀ j, ¬ x = h.next + j := by omega
        simp [upds, upd, e, hx7]
      · simp [upds, upd]
      · simp [upds, upd, a3, a4]
      · simp [upds, upd, a3, a4, rowE]
    · rw [e0] at hi; simp at hi
    · have hsi : i < sbs.length := by omega
      have hcm := s6 _ (List.getElem_mem hsi)
      have hcb := (s8 i sbs[i] rows[i] (List.getElem?_eq_getElem hsi) (List.getElem?_eq_getElem hi)).1
      have c1 := hcm.2.1
      have c2 : ∀ j, ¬ sbs[i] = h.next + j := by omega
      have c3 : ∀ j, ¬ sb = h.next + j := by omega
      have c4 : ∀ j, ¬ h.next + j = sb := by omega
      have c5 : ∀ j, ¬ h.next + j = sbs[i] := by omega
      refine ⟨_, _, .sl (h.next + 10) 1 0 1 false, by simp [pD, argA, lenD, o49_5, h1, h3, h4, hb1, hb3, hi, hiI, s2, hsi, rowE, hlen, hlen64, a1, a2, a3, a4, c1, c2, c3, c4, c5, hcb, snapDepth, mapK, mu49a, mu49b, ap2, ap3]; exact ⟨rfl, rfl⟩, ?_, ?_, ?_, ?_, pushE _ rfl ?_ ?_⟩
      · intro t ht; obtain ⟨q1, q2, q3, q4, q5, q6, q7, q8, q9, q10, q11, q12⟩ := tail t ht
        simp [upd, q1, q2, q3, q4, q5, q6, q7, q8, q9, q10, q11, q12]
      · rfl
      · intro x hx hx7; have e : ∀ j, ¬ x = h.next + j := by omega
        simp [upds, upd, e, hx7]
      · simp [upds, upd]
      · simp [upds, upd, a3, a4]
      · simp [upds, upd, a3, a4, rowE]
  · subst hol
    have ap4 : ∀ (blk0 : Nat → Blk) (v : D) d s, v.cells.length = 1 → ¬ b = d → blk0 b = .live 1 (bs.map (rowE n)) → builtinD E.T (E.pol.mu 49) s (upd blk0 d (.live 1 [v])) .append [32, 32] [.sl b 1 0 out.length false, .sl d 1 0 1 true] = some { v := .sl s 1 0 (out.length + 1) false, wr := [(b, .dead), (s, .live 1 (bs.map (rowE n) ++ [v]))], rd := [b, d] } := fun blk0 v d s hv hbd hbb =>
      appS32' mu49b hv (by simp) (by rw [upd_ne _ _ _ _ hbd]; exact hbb) (by simpa using g3) (by omega) hbd
    have b1 : ∀ j, ¬ b = h.next + j := by omega
    have b2 : ¬ b = N + 7 := by omega
    have b3 : ¬ N + 7 = b := by omega
    have b4 : ¬ b = N := by omega
    have b5 : ¬ N = b := by omega
    have b6 : ∀ j, ¬ h.next + j = b := by omega
    have pushE : ∀ (h' : H), h'.next = h.next + 13 → (∀ x, x < h.next → x ≠ b → x ≠ N + 7 → h'.blk x = h.blk x) → h'.blk (h.next + 8) = .live 2 (rows[out.length].map pD) → h'.blk (h.next + 10) = .live 1 (bs.map (rowE n) ++ [rowE n (h.next + 8)]) → MatE h' (.sl (h.next + 10) 1 0 (out.length + 1) false) (out ++ [rows[out.length]]) n (N + 9) h'.next := fun h' e1 e0 e2 e3 => by
      refine (hm'.push (c := h.next + 8) (s := h.next + 10) (r := rows[out.length]) (by omega) (by omega) (by omega) (by omega) hlen e2 ?_ ?_).wide (by omega)
      · intro x hx hx2 hne
        exact e0 x (by omega) (fun e => hne (by rw [e])) (by omega)
      · rw [e3]; simp only [g2]
    rcases hsrc with rfl | ⟨lo, ⟨e0, _⟩ | ⟨sb, sbs, _, rfl, s2, s3, s4, s5, s6, s7, s8⟩⟩
    · refine ⟨_, _, .sl (h.next + 10) 1 0 (out.length + 1) false, by simp [pD, argA, lenD, o49_5, h1, h3, h4, hb1, hb3, hi, hiI, rowD, hlen, hlen64, a1, a2, a3, a4, b1, b2, b3, b4, b5, b6, g2, g3, snapDepth, mapK, mu49a, mu49b, ap1, ap4]; exact ⟨rfl, rfl⟩, ?_, ?_, ?_, ?_, pushE _ rfl ?_ ?_ ?_⟩
      · intro t ht; obtain ⟨q1, q2, q3, q4, q5, q6, q7, q8, q9, q10, q11, q12⟩ := tail t ht
        simp [upd, q1, q2, q3, q4, q5, q6, q7, q8, q9, q10, q11, q12]
      · rfl
      · intro x hx hx7; have e : ∀ j, ¬ x = h.next + j := by omega
        have e2 : ¬ x = b := by omega
        simp [upds, upd, e, hx7, e2]
      · simp [upds, upd]
      · intro x hx hxb hx7; have e : ∀ j, ¬ x = h.next + j := by omega
        simp [upds, upd, e, hx7, hxb]
      · simp [upds, upd, a3, a4, b6]
      · simp [upds, upd, a3, a4, rowE]
    · rw [e0] at hi; simp at hi
    · have hsi : out.length < sbs.length := by omega
      have hcm := s6 _ (List.getElem_mem hsi)
      have hcb := (s8 out.length sbs[out.length] rows[out.length] (List.getElem?_eq_getElem hsi) (List.getElem?_eq_getElem hi)).1
      have c1 := hcm.2.1
      have c2 : ∀ j, ¬ sbs[out.length] = h.next + j := by omega
      have c3 : ∀ j, ¬ sb = h.next + j := by omega
      have c4 : ∀ j, ¬ h.next + j = sb := by omega
      have c5 : ∀ j, ¬ h.next + j = sbs[out.length] := by omega
      refine ⟨_, _, .sl (h.next + 10) 1 0 (out.length + 1) false, by simp [pD, argA, lenD, o49_5, h1, h3, h4, hb1, hb3, hi, hiI, s2, hsi, rowE, hlen, hlen64, a1, a2, a3, a4, b1, b2, b3, b4, b5, b6, g2, g3, c1, c2, c3, c4, c5, hcb, snapDepth, mapK, mu49a, mu49b, ap2, ap4]; exact ⟨rfl, rfl⟩, ?_, ?_, ?_, ?_, pushE _ rfl ?_ ?_ ?_⟩
      · intro t ht; obtain ⟨q1, q2, q3, q4, q5, q6, q7, q8, q9, q10, q11, q12⟩ := tail t ht
        simp [upd, q1, q2, q3, q4, q5, q6, q7, q8, q9, q10, q11, q12]
      · rfl
      · intro x hx hx7; have e : ∀ j, ¬ x = h.next + j := by omega
        have e2 : ¬ x = b := by omega
        simp [upds, upd, e, hx7, e2]
      · simp [upds, upd]
      · intro x hx hxb hx7; have e : ∀ j, ¬ x = h.next + j := by omega
        simp [upds, upd, e, hx7, hxb]
      · simp [upds, upd, a3, a4, b6]
      · simp [upds, upd, a3, a4, rowE]

structure I49 (c : M) (w : D) (h0 : H) (k : Nat) (st : St) : Prop where
  le : k ≤ c.rows.length
  h1 : st.A 1 = .ptr h0.next 0 0
  h2 : st.A 2 = .ptr (h0.next + 1) 0 0
  h3 : st.A 3 = .ptr (h0.next + 7) 0 0
  h4 : st.A 4 = .int .i64 ((c.rows.length - k : Nat) : Int)
  hb1 : st.h.blk h0.next = .live 3 [.agg [.int .i64 c.ins, .int .i64 c.outs, w]]
  hb2 : ∃ z, st.h.blk (h0.next + 1) = .live 3 [.agg [.int .i64 0, .int .i64 0, z]]
  hb3 : ∃ w', st.h.blk (h0.next + 7) = .live 3 [.agg [.int .i64 c.ins, .int .i64 c.outs, w']] ∧ MatE st.h w' (c.rows.take (c.rows.length - k)) c.ins (h0.next + 9) st.h.next
  old : ∀ x, x < h0.next → st.h.blk x = h0.blk x
  hn : h0.next + 9 ≤ st.h.next

theorem call49 {c : M} (hv : Shape c) {w : D} {h : H} (hs : SrcE h w c.rows c.ins h.next) : ∃ h' w', callI E (.fn 49 []) [.agg [.int .i64 c.ins, .int .i64 c.outs, w]] h = some (.agg [.int .i64 c.ins, .int .i64 c.outs, w'], h', { full := true }) ∧ MatE h' w' c.rows c.ins h.next h'.next ∧ h.next ≤ h'.next ∧ ∀ x, x < h.next → h'.blk x = h.blk x := by
  have i2 := hv.i2
  have r2 := hv.r2
  have key := body_V (P := fun v h' => ∃ w', v = .agg [.int .i64 c.ins, .int .i64 c.outs, w'] ∧ MatE h' w' c.rows c.ins h.next h'.next ∧ h.next ≤ h'.next ∧ ∀ x, x < h.next → h'.blk x = h.blk x) (run49 [.agg [.int .i64 c.ins, .int .i64 c.outs, w]] h (by simp)) (by
    have n1 : ∀ j, ¬ h.next = h.next + 2 + j := by omega
    have n2 : ¬ h.next = h.next + 2 + 5 := by omega
    have n3 : ¬ h.next + 1 = h.next + 2 + 5 := by omega
    have n4 : h.next + 2 + 5 = h.next + 7 := by omega
    unfold b49
    refine .then xr49_0 (by simp [o49_0, builtinD, lenD, pD, argA]; rfl) ?_
    refine .then xr49_1 (by simp [o49_1, builtinD, lenD, pD, argA, buildable, buildD, placeD, n1, n2, n3]; rfl) ?_
    refine .assoc (.then xr49_2 (by simp [o49_2, builtinD, lenD, pD, argA]; rfl) ?_)
    refine .seq (.block (V.count (I49 c w h) ?_ ?_ c.rows.length _ ⟨Nat.le_refl _, ?_, ?_, ?_, ?_, ?_, ⟨.frz [] .nil, ?_⟩, ⟨.frz [] .nil, ?_, ?_⟩, ?_, ?_⟩))
    · rintro k ⟨A, h1⟩ ⟨le, q1, q2, q3, q4, qb1, ⟨z, qb2⟩, ⟨w', qb3, qm⟩, old, hn⟩
      have hlt : c.rows.length - (k + 1) < c.rows.length := by omega
      generalize hi : c.rows.length - (k + 1) = i at *
      have hk' : c.rows.length - k = i + 1 := by omega
      have hwr : IntKind.i64.wrap ((i : Int) + 1) = ((i + 1 : Nat) : Int) := by rw [wrap_id] <;> omega
      have htk : c.rows.take (i + 1) = c.rows.take i ++ [c.rows[i]] := List.take_succ_eq_append_getElem hlt
      simp only at q1 q2 q3 q4 qb1 qb2 qb3 qm old hn
      rw [cl49_0]
      have sl1 : ∀ w, lenD E.T h1.blk 32 w = lenD E.T h1.blk 32 w := fun _ => rfl
      have hlen : lenD E.T h1.blk 32 w = some { v := .int .i64 c.rows.length } := by
        rcases hs with rfl | ⟨lo, ⟨e0, _⟩ | ⟨sb, sbs, _, rfl, _⟩⟩
        · simp [lenD]
        · rw [e0] at hlt; simp at hlt
        · simp [lenD]
      refine .assoc (.then (xr49_3) (by simp [pD, argA, builtinD, hlen, q1, q4, qb1, o49_3]; rfl) ?_)
      refine .head (by simp [opd, upd]; rfl) (fun _ => ?_) (fun hf => by simp [hlt] at hf)
      obtain ⟨A', h', w'', e1, e2, e3, e4, e5, e6⟩ := push49 (A := upd (upd (upd (upd (upd A 10 (.int .i64 i)) 11 (.ptr h.next 0 2)) 12 w) 13 (.int .i64 c.rows.length)) 14 (.bool (decide (i < c.rows.length)))) (h := ⟨h1.next + 5, h1.blk⟩) (rows := c.rows) (out := c.rows.take i) (n := c.ins) (N := h.next) (i := i) (w := w) (w' := w') (by simp [upd, q1]) (by simp [upd, q3]) (by simp [upd, q4]) qb1 qb3 (qm.nx _ (by simp)) (hs.frame (fun x hx => old x hx)) hlt r2 (by simp; omega) i2 hv.len (by simp; omega)
      refine .seq (.block (.reg xr49_5 e1 ?_))
      show V E 49 30 r49_4 _ _
      have p1 := (e2 1 (by omega)).trans (show _ = D.ptr h.next 0 0 by simp [upd, q1])
      have p2 := (e2 2 (by omega)).trans (show _ = D.ptr (h.next + 1) 0 0 by simp [upd, q2])
      have p3 := (e2 3 (by omega)).trans (show _ = D.ptr (h.next + 7) 0 0 by simp [upd, q3])
      have p4 := (e2 4 (by omega)).trans (show _ = D.int .i64 i by simp [upd, q4])
      simp only at e3 e4
      refine .reg xr49_4 (by simp [o49_4, builtinD, lenD, pD, argA, p4]; rfl) ⟨by omega, ?_, ?_, ?_, ?_, ?_, ⟨z, ?_⟩, ⟨w'', ?_, ?_⟩, ?_, ?_⟩
      · simp [upd, p1]
      · simp [upd, p2]
      · simp [upd, p3]
      · simp [upd, hk', hwr]
      · simpa [upds] using (e4 h.next (by omega) (by omega)).trans qb1
      · simpa [upds] using (e4 (h.next + 1) (by omega) (by omega)).trans qb2
      · simpa [upds] using e5
      · rw [hk', htk]
        simpa [upds] using e6.nx (h'.next + 3) (hi' := h'.next + 3) (by omega)
      · intro x hx
        simpa [upds] using (e4 x (by omega) (by omega)).trans (old x hx)
      · simp; omega
    · rintro ⟨A, h1⟩ ⟨le, q1, q2, q3, q4, qb1, ⟨z, qb2⟩, ⟨w', qb3, qm⟩, old, hn⟩
      simp only at q1 q2 q3 q4 qb1 qb2 qb3 qm old hn
      have hr1 := hv.r1
      have hlen : lenD E.T h1.blk 32 w = some { v := .int .i64 c.rows.length } := by
        rcases hs with rfl | ⟨lo, ⟨e0, _⟩ | ⟨sb, sbs, _, rfl, _⟩⟩
        · simp [lenD]
        · rw [e0] at hr1; simp at hr1
        · simp [lenD]
      rw [cl49_0]
      refine .assoc (.then (xr49_3) (by simp [pD, argA, builtinD, hlen, q1, q4, qb1, o49_3]; rfl) ?_)
      refine .head (by simp [opd, upd]; rfl) (fun hf => by simp at hf) (fun _ => ?_)
      have m1 : ¬ h.next + 7 = h.next + 1 := by omega
      refine .then xr49_6 (by simp [o49_6, builtinD, lenD, pD, argA, q2, q3, qb2, qb3]; rfl) (.ret ⟨.agg [.int .i64 c.ins, .int .i64 c.outs, w'], ?_, w', rfl, ?_, ?_, ?_⟩)
      · simp [resultsD, mapO, resultD, upd, q2, loadD, upds, partD]
      · rw [Nat.sub_zero, List.take_length] at qm
        refine (qm.frame (h' := _) (fun b hb1 hb2 => ?_)).lower (lo' := h.next) (by omega) |>.wide (by simp; omega)
        simp [upds, upd, show ¬ b = h.next + 1 by omega]
      · simp; omega
      · intro x hx
        simpa [upds, upd, show ¬ x = h.next + 1 by omega] using old x hx
    · simp [upd]
    · simp [upd]
    · simp [upd, n4]
    · simp [upd]
    · simp [upd, upds, n1, n2, n4]
    · simp [upd, upds, n3]
    · simp [upd, upds, n4]
    · exact .inl ⟨by simp, rfl⟩
    · intro x hx
      simp [upd, upds, show ¬ x = h.next by omega, show ¬ x = h.next + 1 by omega, show ¬ x = h.next + 2 + 5 by omega]
    · simp <;> omega)
  obtain ⟨v, h', e, w', rfl, e2, e3, e4⟩ := key
  refine ⟨h', w', ?_, e2, e3, e4⟩
  rw [callI_fn, if_neg (by decide)]
  simp [e]
end Go.Eng.E3

namespace Go.Eng.E3
open Go Go.Eng Go.Proofs
set_option maxRecDepth 100000
attribute [local simp] execR runOps stepOp wantedD evalOp opd upd St.put Eff.apply upds looseOk FP.free FP.idle apart Eff.fp ofVal loadD storeD partD setPart indexAddrD isShift arith unD callOp mapO D.okc pickD buildable buildD placeD convD
set_option linter.unusedSimpArgs false
set_option maxHeartbeats 4000000

def EdgeIn (n o : Nat) (e : Int × Int) : Prop := e = (-1, -1) ∨ (0 ≤ e.1 ∧ e.1 < n ∧ 0 ≤ e.2 ∧ e.2 < o)

theorem mu48a : E.pol.mu 48 72 = false := by decide
theorem mu48b : E.pol.mu 48 32 = false := by decide

/-- What a drawn machine is drawn from. -/
def drawnM (st ins outs : Int) (p : Bool) (es : List Int) : D := .agg [.int .u8 st, .int .u8 ins, .int .u8 outs, .bool p, .frz (es.map (D.int .u16)) .unk]

structure F48 (d : D) (n ni no : Nat) (rows : List (List (Int × Int))) (s N : Nat) (st : St) : Prop where
  h1 : st.A 1 = .ptr 0 0 0
  h2 : st.A 2 = .ptr 1 0 0
  h3 : st.A 3 = .int .i64 n
  h4 : st.A 4 = .ptr 19 0 0
  h5 : st.A 5 = .int .i64 s
  hb : st.h.blk 0 = .live 5 [d]
  hz : ∃ z, st.h.blk 1 = .live 3 [.agg [.int .i64 0, .int .i64 0, z]]
  hr : ∃ tr, st.h.blk 19 = .live 3 [.agg [.int .i64 ni, .int .i64 no, .frz (rows.map rowD) tr]] ∧ TokB st.h.blk tr 1 N ∧ (tr = .nil ↔ s = 0)
  hN : 20 ≤ N
  hn : N ≤ st.h.next

theorem F48.step {d : D} {n ni no : Nat} {rows : List (List (Int × Int))} {s N : Nat} {A A' : Nat → D} {h h' : H} (f : F48 d n ni no rows s N ⟨A, h⟩) (e : ∀ t, t < 6 → A' t = A t) (hn : h.next ≤ h'.next) (hb : ∀ b, b < N → h'.blk b = h.blk b) : F48 d n ni no rows s N ⟨A', h'⟩ := by
  obtain ⟨q1, q2, q3, q4, q5, q7, ⟨z, q8⟩, ⟨tr, q9, q10, q11⟩, q12, q13⟩ := f
  simp only at q1 q2 q3 q4 q5 q7 q8 q9 q10 q13
  refine ⟨(e 1 (by omega)).trans q1, (e 2 (by omega)).trans q2, (e 3 (by omega)).trans q3, (e 4 (by omega)).trans q4, (e 5 (by omega)).trans q5, (hb 0 (by omega)).trans q7, ⟨z, (hb 1 (by omega)).trans q8⟩, ⟨tr, (hb 19 (by omega)).trans q9, ?_, q11⟩, q12, by simp only; omega⟩
  exact q10.mono (Nat.le_refl _) (fun b hb1 hb2 => (hb b hb1).trans hb2)

structure J48 (d : D) (n ni no : Nat) (rows : List (List (Int × Int))) (s N : Nat) (j : Nat) (st : St) : Prop where
  le : j ≤ ni
  f : F48 d n ni no rows s N st
  h6 : ∃ (row : List (Int × Int)) (t6 : Tok), st.A 6 = .frz (row.map pD) t6 ∧ T7 st.h.blk t6 N st.h.next ∧ row.length = ni - j ∧ ∀ e ∈ row, EdgeIn n no e
  h7 : st.A 7 = .int .i64 ((ni - j : Nat) : Int)

theorem loop48b {st ins outs : Int} {p : Bool} {es : List Int} {n ni no : Nat} {rows : List (List (Int × Int))} {s N : Nat} (hn6 : 1 ≤ n ∧ n ≤ 6) (hni3 : 1 ≤ ni ∧ ni ≤ 3) (hno3 : 1 ≤ no ∧ no ≤ 3) (hs : s ≤ 6) (he : ∀ e ∈ es, 0 ≤ e ∧ e < 65536) {Q : Po} (hQ : ∀ q, J48 (drawnM st ins outs p es) n ni no rows s N 0 q → Q.x 2 q) (j : Nat) (q : St) (hI : J48 (drawnM st ins outs p es) n ni no rows s N j q) :
    V E 48 87 (.loop l48_1) q Q := by
  refine V.count (J48 (drawnM st ins outs p es) n ni no rows s N) ?_ ?_ j q hI
  · rintro j ⟨A, h⟩ ⟨le, f, ⟨row, t6, h6, ht, hrl, hre⟩, h7⟩
    have hlt : ni - (j + 1) < ni := by omega
    generalize hi : ni - (j + 1) = i at *
    have hk' : ni - j = i + 1 := by omega
    have hwr : IntKind.i64.wrap ((i : Int) + 1) = ((i + 1 : Nat) : Int) := by rw [wrap_id] <;> omega
    have hsn : s * ni ≤ 6 * 3 := Nat.mul_le_mul hs hni3.2
    have w1 : IntKind.i64.wrap ((s : Int) * (ni : Int)) = ((s * ni : Nat) : Int) := by rw [← Int.natCast_mul]; exact wrap_id (by omega) (by omega)
    have w2 : IntKind.i64.wrap (((s * ni : Nat) : Int) + (i : Int)) = ((s * ni + i : Nat) : Int) := by rw [wrap_id] <;> omega
    have f0 := f
    obtain ⟨q1, q2, q3, q4, q5, qb, ⟨z, qz⟩, ⟨tr, qr, qtr, qtn⟩, qN, qn⟩ := f0
    simp only at q1 q2 q3 q4 q5 qb qz qr qtr qn h6 h7 ht
    generalize hkk : s * ni + i = kk at *
    generalize s * ni = sn at *
    -- one edge more
    have app : ∀ (s' : Nat) (blk : Nat → Blk) (x : Int × Int), TokB blk t6 2 s' → builtinD E.T (E.pol.mu 48) s' blk .append [72, 72] [.frz (row.map pD) t6, .frz [.agg [.int .i64 x.1, .int .i64 x.2]] .exact] = some { v := .frz (row.map pD ++ [.agg [.int .i64 x.1, .int .i64 x.2]]) (.own s' 2), wr := tokWr t6 s', rd := tokRd t6 } := fun s' blk x hx => by
      have := app72 (mu := E.pol.mu 48) (s := s') (blk := blk) (xs := row) (tk := t6) (tk' := .exact) (x := x) mu48a hx (by omega)
      simpa [pD] using this
    have last : ∀ (A2 : Nat → D) (nx c : Nat) (x : Int × Int) (Q : Po), h.next ≤ c → c < nx → (∀ t, t < 6 → A2 t = A t) → A2 7 = A 7 → A2 6 = .frz (row.map pD ++ [.agg [.int .i64 x.1, .int .i64 x.2]]) (.own c 2) → EdgeIn n no x → (∀ q, J48 (drawnM st ins outs p es) n ni no rows s N j q → Q.n q) →
        V E 48 87 r48_9 ⟨A2, ⟨nx, upds h.blk (tokWr t6 c)⟩⟩ Q := by
      intro A2 nx c x Q hc1 hc2 he2 e7 e6 hx hq
      have g7 := e7.trans h7
      refine .reg xr48_9 (by simp [o48_9, builtinD, lenD, pD, argA, g7]; rfl) (hq _ ⟨by omega, ?_, ⟨row ++ [x], .own c 2, ?_, ?_, by simp [hrl]; omega, ?_⟩, ?_⟩)
      · refine f.step (fun t ht => by rw [← he2 t ht]; simp [upd, show t ≠ 35 by omega, show t ≠ 36 by omega, show t ≠ 7 by omega]) (by simp; omega) (fun b hb => ?_)
        simp only [upds]
        rcases ht with rfl | ⟨o, rfl, oo, oN, on⟩
        · simp [tokWr, upds, upd, show ¬ b = c by omega]
        · simp [tokWr, upds, upd, show ¬ b = c by omega, show ¬ b = o by omega]
      · simp [upd, e6, pD]
      · refine .inr ⟨_, rfl, ?_, by omega, by simp; omega⟩
        simp only [upds]
        rcases ht with rfl | ⟨o, rfl, oo, oN, on⟩ <;> simp [tokWr, upds, upd]
      · intro e hem
        rcases List.mem_append.1 hem with hem | hem
        · exact hre e hem
        · simp at hem; subst hem; exact hx
      · simp [upd, hk', hwr]
    have rest : ∀ (A2 : Nat → D) (nx : Nat) (v : Int) (Q : Po), h.next ≤ nx → (∀ t, t < 8 → A2 t = A t) → A2 8 = .int .i64 v → 0 ≤ v → v < 65536 → (∀ q, J48 (drawnM st ins outs p es) n ni no rows s N j q → Q.n q) →
        V E 48 87 (.seq r48_14 (.cond (.tmp 60) r48_15 r48_16)) ⟨A2, ⟨nx, h.blk⟩⟩ ((Q.upto fun s' => V E 48 87 r48_9 s' Q).within 3) := by
      intro A2 nx v Q hnx he2 e8 v0 v1 hq
      have e1 := (he2 1 (by omega)).trans q1
      have e3 := (he2 3 (by omega)).trans q3
      have e4 := (he2 4 (by omega)).trans q4
      have e6 := (he2 6 (by omega)).trans h6
      have hn0 : ¬ (n : Int) = 0 := by omega
      have hno0 : ¬ (no : Int) = 0 := by omega
      have hnN : ¬ n = 0 := by omega
      have hnoN : ¬ no = 0 := by omega
      have hd4 : v.tdiv 4 = v / 4 := Int.tdiv_eq_ediv_of_nonneg v0
      have hq0 : 0 ≤ v / 4 := by omega
      have w3 : IntKind.i64.wrap (v / 4) = v / 4 := wrap_id (by omega) (by omega)
      have hdn : (v / 4).tdiv n = v / 4 / n := Int.tdiv_eq_ediv_of_nonneg hq0
      have hdn0 : 0 ≤ v / 4 / (n : Int) := Int.ediv_nonneg hq0 (by omega)
      have hdn1 : v / 4 / (n : Int) ≤ v / 4 := Int.ediv_le_self _ hq0
      have w4 : IntKind.i64.wrap (v / 4 / (n : Int)) = v / 4 / (n : Int) := wrap_id (by omega) (by omega)
      have hm1 : (v / 4).tmod n = v / 4 % n := Int.tmod_eq_emod_of_nonneg hq0
      have hm2 : (v / 4 / (n : Int)).tmod no = v / 4 / (n : Int) % no := Int.tmod_eq_emod_of_nonneg hdn0
      have hx : EdgeIn n no (v / 4 % n, v / 4 / (n : Int) % no) := .inr ⟨Int.emod_nonneg _ hn0, Int.emod_lt_of_pos _ (by omega), Int.emod_nonneg _ hno0, Int.emod_lt_of_pos _ (by omega)⟩
      have tk1 : ∀ k, TokB h.blk t6 2 (nx + k) := fun k => ht.tok.mono (by omega) (fun b _ hb => hb)
      have ha : ∀ k (x y : Int), builtinD E.T (E.pol.mu 48) (nx + k) h.blk .append [72, 72] [.frz (row.map pD) t6, .frz [.agg [.int .i64 x, .int .i64 y]] .exact] = some { v := .frz (row.map pD ++ [.agg [.int .i64 x, .int .i64 y]]) (.own (nx + k) 2), wr := tokWr t6 (nx + k), rd := tokRd t6 } := fun k x y => app (nx + k) h.blk (x, y) (tk1 k)
      have none15 : ∀ (A3 : Nat → D) (k : Nat), (∀ t, t < 9 → A3 t = A2 t) → V E 48 87 r48_15 ⟨A3, ⟨nx + k, h.blk⟩⟩ ((Q.upto fun s' => V E 48 87 r48_9 s' Q).within 3) := fun A3 k h3' => by
        have g6 := (h3' 6 (by omega)).trans e6
        refine .reg xr48_15 (by simp [o48_15, pD, argA, g6, Nat.add_assoc, ha, mu48a, mapK, snapDepth, snap_int, snap, kills, buildable, buildD, placeD]; rfl) ?_
        refine last _ _ (nx + (k + 3)) (-1, -1) Q (by omega) (by omega) (fun t ht => ?_) ?_ ?_ (.inl rfl) hq
        · rw [← he2 t (by omega), ← h3' t (by omega)]; simp [upd, show t ≠ 6 by omega, show ∀ c, 61 ≤ c → ¬ t = c from fun c h => by omega]
        · rw [← he2 7 (by omega), ← h3' 7 (by omega)]; simp [upd]
        · simp [upd]
      have some16 : ∀ (A3 : Nat → D) (k : Nat), (∀ t, t < 9 → A3 t = A2 t) → V E 48 87 r48_16 ⟨A3, ⟨nx + k, h.blk⟩⟩ ((Q.upto fun s' => V E 48 87 r48_9 s' Q).within 3) := fun A3 k h3' => by
        have g6 := (h3' 6 (by omega)).trans e6
        have g8 := (h3' 8 (by omega)).trans e8
        have g3 := (h3' 3 (by omega)).trans e3
        have g4 := (h3' 4 (by omega)).trans e4
        refine .reg xr48_16 (by simp [o48_16, pD, argA, g6, g8, g3, g4, qr, hn0, hno0, hnN, hnoN, hd4, w3, hdn, w4, hm1, hm2, Nat.add_assoc, ha, mu48a, mapK, snapDepth, snap_int, snap, kills, buildable, buildD, placeD]; rfl) ?_
        refine last _ _ (nx + (k + 14)) (v / 4 % n, v / 4 / (n : Int) % no) Q (by omega) (by omega) (fun t ht => ?_) ?_ ?_ hx hq
        · rw [← he2 t (by omega), ← h3' t (by omega)]; simp [upd, show t ≠ 6 by omega, show ∀ c, 65 ≤ c → ¬ t = c from fun c h => by omega]
        · rw [← he2 7 (by omega), ← h3' 7 (by omega)]; simp [upd]
        · simp [upd]
      cases p with
      | false =>
        refine .then xr48_14 (by simp [o48_14, builtinD, lenD, pD, argA, e1, e8, qb, drawnM]; rfl) ?_
        refine .cond (v := false) (by simp [opd, upd]) (fun x => by cases x) (fun _ => ?_)
        exact some16 _ 7 (fun t ht => by simp [upd, show ∀ c, 54 ≤ c → ¬ t = c from fun c h => by omega])
      | true =>
        refine .then xr48_14 (by simp [o48_14, builtinD, lenD, pD, argA, e1, e8, qb, drawnM]; rfl) ?_
        refine .cond (v := (v.tmod 4 == 3)) (by simp [opd, upd]) (fun _ => ?_) (fun _ => ?_)
        · exact none15 _ 7 (fun t ht => by simp [upd, show ∀ c, 54 ≤ c → ¬ t = c from fun c h => by omega])
        · exact some16 _ 7 (fun t ht => by simp [upd, show ∀ c, 54 ≤ c → ¬ t = c from fun c h => by omega])
    rw [cl48_1]
    refine .assoc (.then xr48_8 (by simp [o48_8, builtinD, lenD, pD, argA, q4, qr, h7]; rfl) ?_)
    refine .head (by simp [opd, upd]; rfl) (fun _ => ?_) (fun hf => by simp [hlt] at hf)
    refine .seq (.block (.then xr48_10 (by simp [o48_10, builtinD, lenD, pD, argA]; rfl) ?_))
    refine .assoc (.then xr48_11 (by simp [o48_11, builtinD, lenD, pD, argA, q4, q5, qr, h7, w1, w2]; rfl) ?_)
    refine .assoc (.then xr48_12 (by simp [o48_12, builtinD, lenD, pD, argA, q1, qb, drawnM]; rfl) ?_)
    by_cases hke : kk < es.length
    · have hei := he _ (List.getElem_mem hke)
      have hkI : (kk : Int) < es.length := by omega
      have w5 : IntKind.i64.wrap es[kk] = es[kk] := wrap_id (by omega) (by omega)
      refine .seq (.cond (v := true) (by simp [opd, upd, hke]) (fun _ => ?_) (fun x => by cases x))
      refine .reg xr48_13 (by simp [o48_13, builtinD, lenD, pD, argA, q1, qb, drawnM, hke, hkI, convD, w5]; rfl) ?_
      refine rest _ _ es[kk] _ (by omega) (fun t ht => ?_) (by simp [upd]) hei.1 hei.2 (fun q hq => hq)
      simp [upd, show t ≠ 8 by omega, show t ≠ 9 by omega, show ∀ c, 31 ≤ c → ¬ t = c from fun c h => by omega]
    · refine .seq (.cond (v := false) (by simp [opd, upd]; omega) (fun x => by cases x) (fun _ => .skip ?_))
      refine rest _ _ 0 _ (by omega) (fun t ht => ?_) (by simp [upd]) (by omega) (by omega) (fun q hq => hq)
      simp [upd, show t ≠ 8 by omega, show t ≠ 9 by omega, show ∀ c, 31 ≤ c → ¬ t = c from fun c h => by omega]
  · rintro ⟨A, h⟩ ⟨le, f, ⟨row, t6, h6, ht, hrl, hre⟩, h7⟩
    have f0 := f
    obtain ⟨q1, q2, q3, q4, q5, qb, ⟨z, qz⟩, ⟨tr, qr, qtr, qtn⟩, qN, qn⟩ := f0
    simp only at q4 qr h6 h7 ht
    rw [cl48_1]
    refine .assoc (.then xr48_8 (by simp [o48_8, builtinD, lenD, pD, argA, q4, qr, h7]; rfl) ?_)
    refine .head (by simp [opd, upd]; rfl) (fun hf => by simp at hf) (fun _ => hQ _ ⟨by omega, ?_, ⟨row, t6, ?_, ?_, hrl, hre⟩, ?_⟩)
    · exact f.step (fun t ht => by simp [upd, show ∀ c, 31 ≤ c → ¬ t = c from fun c h => by omega]) (by simp) (fun _ _ => rfl)
    · simp [upd, h6]
    · rcases ht with x | ⟨o, x1, x2, x3, x4⟩
      · exact .inl x
      · exact .inr ⟨o, x1, x2, x3, by simp only; omega⟩
    · simp [upd, h7]

end Go.Eng.E3

namespace Go.Eng.E3
open Go Go.Eng Go.Proofs
set_option maxRecDepth 100000
attribute [local simp] execR runOps stepOp wantedD evalOp opd upd St.put Eff.apply upds looseOk FP.free FP.idle apart Eff.fp ofVal loadD storeD partD setPart indexAddrD isShift arith unD callOp mapO D.okc pickD buildable buildD placeD convD
set_option linter.unusedSimpArgs false
set_option maxHeartbeats 4000000

structure I48 (d : D) (n ni no : Nat) (k : Nat) (q : St) : Prop where
  le : k ≤ n
  ex : ∃ rows : List (List (Int × Int)), rows.length = n - k ∧ (∀ r ∈ rows, r.length = ni ∧ ∀ e ∈ r, EdgeIn n no e) ∧ F48 d n ni no rows (n - k) q.h.next q

theorem spec48 {st ins outs : Int} {p : Bool} {es : List Int} (h1 : 0 ≤ st ∧ st < 256) (h2 : 0 ≤ ins ∧ ins < 256) (h3 : 0 ≤ outs ∧ outs < 256) (he : ∀ e ∈ es, 0 ≤ e ∧ e < 65536) :
    ∃ m : M, Valid m ∧ m.rows.length ≤ 6 ∧ (m.ins : Int) = 1 + ins % 3 ∧ (m.outs : Int) = 1 + outs % 3 ∧ bodyR 48 [drawnM st ins outs p es] = some (encM m) := by
  obtain ⟨n, hn⟩ : ∃ n : Nat, (n : Int) = 1 + st.tmod 6 := ⟨(1 + st.tmod 6).toNat, by rw [Int.tmod_eq_emod_of_nonneg h1.1]; omega⟩
  obtain ⟨ni, hni⟩ : ∃ n : Nat, (n : Int) = 1 + ins.tmod 3 := ⟨(1 + ins.tmod 3).toNat, by rw [Int.tmod_eq_emod_of_nonneg h2.1]; omega⟩
  obtain ⟨no, hno⟩ : ∃ n : Nat, (n : Int) = 1 + outs.tmod 3 := ⟨(1 + outs.tmod 3).toNat, by rw [Int.tmod_eq_emod_of_nonneg h3.1]; omega⟩
  have hn6 : 1 ≤ n ∧ n ≤ 6 := by rw [Int.tmod_eq_emod_of_nonneg h1.1] at hn; omega
  have hni3 : 1 ≤ ni ∧ ni ≤ 3 := by rw [Int.tmod_eq_emod_of_nonneg h2.1] at hni; omega
  have hno3 : 1 ≤ no ∧ no ≤ 3 := by rw [Int.tmod_eq_emod_of_nonneg h3.1] at hno; omega
  have w1 : IntKind.i64.wrap (st.tmod 6) = st.tmod 6 := wrap_id (by omega) (by omega)
  have w2 : IntKind.i64.wrap (ins.tmod 3) = ins.tmod 3 := wrap_id (by omega) (by omega)
  have w3 : IntKind.i64.wrap (outs.tmod 3) = outs.tmod 3 := wrap_id (by omega) (by omega)
  have w4 : IntKind.i64.wrap (1 + st.tmod 6) = (n : Int) := by rw [hn]; exact wrap_id (by omega) (by omega)
  have w5 : IntKind.i64.wrap (1 + ins.tmod 3) = (ni : Int) := by rw [hni]; exact wrap_id (by omega) (by omega)
  have w6 : IntKind.i64.wrap (1 + outs.tmod 3) = (no : Int) := by rw [hno]; exact wrap_id (by omega) (by omega)
  have key : V E 48 87 b48 ⟨argA [drawnM st ins outs p es], H.empty⟩ ⟨fun _ => False, fun s => ∃ rows : List (List (Int × Int)), rows.length = n ∧ (∀ r ∈ rows, r.length = ni ∧ ∀ e ∈ r, EdgeIn n no e) ∧ s.A 2 = .ptr 1 0 0 ∧ ∃ tr, s.h.blk 1 = .live 3 [.agg [.int .i64 ni, .int .i64 no, .frz (rows.map rowD) tr]] ∧ ∃ o, tr = .own o 1, fun _ _ => False, fun _ _ => False⟩ := by
    unfold b48
    refine .then xr48_0 (by simp [o48_0, builtinD, lenD, pD, argA, drawnM]; rfl) ?_
    refine .then xr48_1 (by simp [o48_1, builtinD, lenD, pD, argA, convD, w1, w4]; rfl) ?_
    refine .then xr48_2 (by simp [o48_2, builtinD, lenD, pD, argA, convD, w2, w3, w5, w6, buildable, buildD, placeD]; rfl) ?_
    refine .assoc (.then xr48_3 (by simp [o48_3, builtinD, lenD, pD, argA]; rfl) ?_)
    refine .seq (.block (V.count (I48 (drawnM st ins outs p es) n ni no) ?_ ?_ n _ ⟨Nat.le_refl _, [], by simp, by simp, ⟨?_, ?_, ?_, ?_, ?_, ?_, ⟨.frz [] .nil, ?_⟩, ⟨.nil, ?_, .inl rfl, by simp⟩, ?_, ?_⟩⟩))
    · rintro k ⟨A, h⟩ ⟨le, rows, hrl, hre, f⟩
      have hlt : n - (k + 1) < n := by omega
      generalize hi : n - (k + 1) = i at *
      have hk' : n - k = i + 1 := by omega
      have hwr : IntKind.i64.wrap ((i : Int) + 1) = ((i + 1 : Nat) : Int) := by rw [wrap_id] <;> omega
      have h3' := f.h3
      have h5' := f.h5
      simp only at h3' h5' f
      rw [cl48_0]
      refine .assoc (.then xr48_4 (by simp [o48_4, builtinD, lenD, pD, argA, h3', h5']; rfl) ?_)
      refine .head (by simp [opd, upd]; rfl) (fun _ => ?_) (fun hf => by simp [hlt] at hf)
      refine .seq (.block (.then xr48_6 (by simp [o48_6, builtinD, lenD, pD, argA]; rfl) ?_))
      refine .assoc (.then xr48_7 (by simp [o48_7, builtinD, lenD, pD, argA]; rfl) ?_)
      refine .seq (.block (loop48b (st := st) (ins := ins) (outs := outs) (p := p) (es := es) (rows := rows) (s := i) (N := h.next) hn6 hni3 hno3 (by omega) he ?_ ni _ ⟨Nat.le_refl _, ?_, ⟨[], .nil, ?_, .inl rfl, by simp, by simp⟩, ?_⟩))
      · rintro ⟨A1, h1'⟩ ⟨_, f1, ⟨row, t6, g6, gt, grl, gre⟩, g7⟩
        obtain ⟨q1, q2, q3, q4, q5, qb, ⟨z, qz⟩, ⟨tr, qr, qtr, qtn⟩, qN, qn⟩ := f1
        simp only at g6 gt q1 q2 q3 q4 q5 qb qz qr qtr qn
        have htr1 : TokB h1'.blk tr 1 h1'.next := qtr.mono qn (fun b _ hb => hb)
        have hsn : ∀ blk, snap false blk 9 (.frz (row.map pD) t6) = some (.frz (row.map pD) .unk, []) := fun blk => by
          rw [show (9 : Nat) = 6 + 3 from rfl, snap_pairs]
          rcases gt with rfl | ⟨o, rfl, _, _, _⟩ <;> rfl
        have ha : ∀ s, builtinD E.T (E.pol.mu 48) s h1'.blk .append [32, 32] [.frz (rows.map rowD) tr, .frz [.frz (row.map pD) .unk] .exact] = some { v := .frz (rows.map rowD ++ [rowD row]) (.own s 1), wr := tokWr tr s, rd := tokRd tr } := fun s => by
          have := app32 (mu := E.pol.mu 48) (s := s) (blk := h1'.blk) (xs := rows) (tk := tr) (tk' := .exact) (x := row) mu48b htr1 (by omega)
          simpa using this
        have hk13 : ∀ s, ¬ 19 = s → upds h1'.blk (tokWr tr s) 19 = h1'.blk 19 := fun s hs => tokWr_keep htr1 (by rw [qr]; simp) hs
        have hk0 : ∀ s, ¬ 0 = s → upds h1'.blk (tokWr tr s) 0 = h1'.blk 0 := fun s hs => tokWr_keep htr1 (by rw [qb]; simp) hs
        have hk1 : ∀ s, ¬ 1 = s → upds h1'.blk (tokWr tr s) 1 = h1'.blk 1 := fun s hs => tokWr_keep htr1 (by rw [qz]; simp) hs
        have e13 := (hk13 (h1'.next + 4) (by omega)).trans qr
        show V E 48 87 r48_17 _ _
        refine .reg xr48_17 (by simp [o48_17, pD, argA, q4, qr, g6, ha, hsn, e13, mu48b, mapK, snapDepth, kills]; rfl) ?_
        show V E 48 87 r48_5 _ _
        refine .reg xr48_5 (by simp [o48_5, builtinD, lenD, pD, argA, q5]; rfl) ⟨by omega, rows ++ [row], by simp [hrl, hk'], ?_, ⟨?_, ?_, ?_, ?_, ?_, ?_, ⟨z, ?_⟩, ⟨.own (h1'.next + 4) 1, ?_, ?_, by simp; omega⟩, ?_, ?_⟩⟩
        · intro r hr
          rcases List.mem_append.1 hr with hr | hr
          · exact hre r hr
          · simp at hr; subst hr; exact ⟨by omega, gre⟩
        · simp [upd, q1]
        · simp [upd, q2]
        · simp [upd, q3]
        · simp [upd, q4]
        · simp [upd, hk', hwr]
        · simpa [upd, upds] using (hk0 (h1'.next + 4) (by omega)).trans qb
        · simpa [upd, upds] using (hk1 (h1'.next + 4) (by omega)).trans qz
        · simp [upd, upds]
        · refine .inr ⟨_, rfl, ?_, by simp <;> omega⟩
          have hg := TokB.grow (blk := h1'.blk) (tk := tr) (e := 1) (s := h1'.next + 4) (nx := h1'.next + 5) (by omega)
          rcases hg with hg | ⟨o, hg1, hg2, _⟩
          · cases hg
          · cases hg1
            simpa [upd, upds, show ¬ h1'.next + 4 = 19 by omega] using hg2
        · simp <;> omega
        · simp
      · exact f.step (fun t ht => by simp [upd, show t ≠ 6 by omega, show t ≠ 7 by omega, show ∀ c, 26 ≤ c → ¬ t = c from fun c h => by omega]) (by simp only; omega) (fun _ _ => rfl)
      · simp [upd]
      · simp [upd]
    · rintro ⟨A, h⟩ ⟨le, rows, hrl, hre, f⟩
      obtain ⟨q1, q2, q3, q4, q5, qb, ⟨z, qz⟩, ⟨tr, qr, qtr, qtn⟩, qN, qn⟩ := f
      simp only at q1 q2 q3 q4 q5 qb qz qr qtr qn
      rw [cl48_0]
      refine .assoc (.then xr48_4 (by simp [o48_4, builtinD, lenD, pD, argA, q3, q5]; rfl) ?_)
      refine .head (by simp [opd, upd]; rfl) (fun hf => by simp at hf) (fun _ => ?_)
      refine .then xr48_18 (by simp [o48_18, builtinD, lenD, pD, argA, q2, q4, qr, qz]; rfl) (.ret ⟨rows, by simpa using hrl, hre, by simp [upd, q2], tr, by simp [upd, upds], ?_⟩)
      rcases qtr with rfl | ⟨o, rfl, _, _⟩
      · have := qtn.1 rfl; omega
      · exact ⟨o, rfl⟩
    · simp [upd]
    · simp [upd]
    · simp [upd]
    · simp [upd]
    · simp [upd]
    · simp [upd, upds, drawnM]
    · simp [upd, upds]
    · simp [upd, upds]
    · simp
    · simp
  obtain ⟨x, s', e1, e2⟩ := key
  cases x with
  | normal => exact e2.elim
  | exit i => exact e2.elim
  | goto l => exact e2.elim
  | ret =>
    obtain ⟨rows, hrl, hre, a2, tr, hb, o, rfl⟩ := e2
    refine ⟨⟨ni, no, rows⟩, ⟨by simp only; omega, by simp only; omega, by simp only; omega, by simp only; omega, by simp only; omega, by simp only; omega, fun r hr => (hre r hr).1, fun r hr e hem => ?_⟩, by simp only; omega, ?_, ?_, ?_⟩
    · have := (hre r hr).2 e hem
      unfold EdgeOk
      rw [hrl]
      exact this
    · simp only; rw [hni, Int.tmod_eq_emod_of_nonneg h2.1]
    · simp only; rw [hno, Int.tmod_eq_emod_of_nonneg h3.1]
    · refine bodyR_V (run48 _ _ (by simp)) ⟨_, _, e1, ⟨.agg [.int .i64 ni, .int .i64 no, .frz (rows.map rowD) (.own o 1)], by simp [resultsD, mapO, resultD, a2, loadD, hb, partD], ?_⟩⟩
      show Option.map _ (match mapK (snap true s'.h.blk 8) [.int .i64 ni, .int .i64 no, .frz (rows.map rowD) (.own o 1)] with | some (ys, k) => some (D.agg ys, k) | none => none) = _
      have : snap true s'.h.blk 8 (.frz (rows.map rowD) (.own o 1)) = some (.frz (rows.map rowD) .unk, []) := by
        show (match mapK (snap false s'.h.blk 7) (rows.map rowD) with | some (ys, k) => some (D.frz ys (Tok.fade true (.own o 1)), k) | none => none) = _
        rw [mapK_map rows fun x _ => snap_rowD false s'.h.blk 4 x]
        rfl
      simp only [mapK, this]
      rfl
end Go.Eng.E3
