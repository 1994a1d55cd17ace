/- Lemmas: C60, S17, S17b, S16, S53, SX, SL10, LMach, LAcc, LMin, LEq, S60a, S60b, S60c, S60, LDif, S4, SU. -/
import Derived.Test.YtcogomacihefoaaEqH
set_option linter.unusedVariables false
set_option linter.unusedSimpArgs false
set_option linter.unusedSectionVars false
set_option linter.deprecated false
namespace Go.Eng.E3
open Go Go.Eng Go.Proofs
set_option maxRecDepth 100000

/-! ### 110: slices.Clip[[]int,int] -/
noncomputable def r110_0 : Code := navF Try.f110 [0]
noncomputable def o110_0 : List Oper := [sop (some 2) (.assign (.const (.slice none 0 0))) none]
theorem xr110_0 : Xr 110 9 r110_0 o110_0 [] := execI_reg' (by kernel_rfl)
noncomputable def r110_1 : Code := navF Try.f110 [1, 0]
noncomputable def o110_1 : List Oper := [sop (some 3) (.move (.tmp 0)) none,
    sop (some 4) (.move (.tmp 0)) none,
    sop (some 5) (.call { callee := (.builtin .len), args := #[(.tmp 4)], argTypes := #[62] }) none,
    sop (some 6) (.move (.tmp 0)) none,
    sop (some 7) (.call { callee := (.builtin .len), args := #[(.tmp 6)], argTypes := #[62] }) none,
    sop (some 8) (.slice 62 (.tmp 3) none (some (.tmp 5)) (some (.tmp 7))) none,
    sop (some 2) (.assign (.tmp 8)) none]
theorem xr110_1 : Xr 110 9 r110_1 o110_1 [] := execI_reg' (by kernel_rfl)
noncomputable def b110 : Code := (.seq r110_0 (.seq r110_1 .ret))
theorem body110 : Try.f110.body = some b110 := by kernel_rfl
theorem fn110 : E.fn 110 = some Try.f110 := by kernel_rfl
theorem run110 (args : List D) (h : H) (hl : args.length ≤ 9) : bodyI E 110 args h = resOf E [(.tmp 2)] (execI E 110 9 b110 ⟨argA args, h⟩) := bodyI_res fn110 body110 rfl rfl args h hl

/-! ### 87: gauntlet/equals.word -/
noncomputable def r87_0 : Code := navF Try.f87 [0]
noncomputable def o87_0 : List Oper := [sop (some 6) (.assign (.const (.slice none 0 0))) none]
theorem xr87_0 : Xr 87 28 r87_0 o87_0 [] := execI_reg' (by kernel_rfl)
noncomputable def l87_0 : Code := navF Try.f87 [1, 0, 0, 0]
noncomputable def r87_1 : Code := navF Try.f87 [1, 0, 0, 0, 0, 0]
noncomputable def o87_1 : List Oper := [sop (some 7) (.move (.tmp 0)) none,
    sop (some 8) (.move (.tmp 1)) none,
    sop (some 9) (.indexAddr 140 (.tmp 7) (.tmp 8)) none,
    sop (some 10) (.fieldAddr 166 (.tmp 9) 1) none,
    sop (some 11) (.load 3 (.tmp 10)) none,
    sop (some 12) (.binOp .neq 3 (.tmp 11) (.const (.int .i64 (-1))) 3) none]
theorem xr87_1 : Xr 87 28 r87_1 o87_1 [] := execI_reg' (by kernel_rfl)
noncomputable def r87_2 : Code := navF Try.f87 [1, 0, 0, 0, 1, 0, 0]
noncomputable def o87_2 : List Oper := [sop (some 13) (.move (.tmp 0)) none,
    sop (some 14) (.move (.tmp 1)) none,
    sop (some 15) (.indexAddr 140 (.tmp 13) (.tmp 14)) none,
    sop (some 16) (.fieldAddr 166 (.tmp 15) 2) none,
    sop (some 17) (.load 3 (.tmp 16)) none,
    sop (some 18) (.buildSlice 62 1 #[(0, (.tmp 17))]) none,
    sop (some 19) (.move (.tmp 2)) none,
    sop (some 20) (.call { callee := (.builtin .append), args := #[(.tmp 18), (.tmp 19)], argTypes := #[62, 62] }) none,
    sop (some 2) (.assign (.tmp 20)) none]
theorem xr87_2 : Xr 87 28 r87_2 o87_2 [] := execI_reg' (by kernel_rfl)
noncomputable def r87_3 : Code := navF Try.f87 [1, 0, 0, 0, 1, 0, 1]
noncomputable def o87_3 : List Oper := [sop (some 21) (.move (.tmp 0)) none,
    sop (some 22) (.move (.tmp 1)) none,
    sop (some 23) (.indexAddr 140 (.tmp 21) (.tmp 22)) none,
    sop (some 24) (.fieldAddr 166 (.tmp 23) 1) none,
    sop (some 25) (.load 3 (.tmp 24)) none,
    sop (some 1) (.assign (.tmp 25)) none]
theorem xr87_3 : Xr 87 28 r87_3 o87_3 [] := execI_reg' (by kernel_rfl)
theorem cl87_0 : l87_0 = (.seq (.seq r87_1 (.cond (.tmp 12) .skip (.exit 0))) (.block 1 (.seq r87_2 r87_3))) := by kernel_rfl
noncomputable def r87_4 : Code := navF Try.f87 [1, 1, 0]
noncomputable def o87_4 : List Oper := [sop (some 26) (.move (.tmp 2)) none,
    sop (some 27) (.call { callee := (.value (.func 110)), args := #[(.tmp 26)], argTypes := #[62] }) none,
    sop (some 6) (.assign (.tmp 27)) none]
theorem xr87_4 : Xr 87 28 r87_4 o87_4 [] := execI_reg' (by kernel_rfl)
noncomputable def b87 : Code := (.seq r87_0 (.seq (.block 0 (.loop l87_0)) (.seq r87_4 .ret)))
theorem body87 : Try.f87.body = some b87 := by kernel_rfl
theorem fn87 : E.fn 87 = some Try.f87 := by kernel_rfl
theorem run87 (args : List D) (h : H) (hl : args.length ≤ 28) : bodyI E 87 args h = resOf E [(.tmp 6)] (execI E 87 28 b87 ⟨argA args, h⟩) := bodyI_res fn87 body87 rfl rfl args h hl

/-! ### 86: gauntlet/equals.meets -/
noncomputable def r86_0 : Code := navF Try.f86 [0]
noncomputable def o86_0 : List Oper := [sop (some 2) (.box 34 (.tmp 0)) none,
    sop (some 3) (.box 34 (.tmp 1)) none,
    sop (some 4) (.assign (.const .nilFunc)) none]
theorem xr86_0 : Xr 86 6 r86_0 o86_0 [] := execI_reg' (by kernel_rfl)
noncomputable def r86_1 : Code := navF Try.f86 [1, 0]
noncomputable def o86_1 : List Oper := [sop (some 5) (.makeFunc (.func 109) #[] #[(.tmp 2), (.tmp 3)]) none,
    sop (some 4) (.assign (.tmp 5)) none]
theorem xr86_1 : Xr 86 6 r86_1 o86_1 [] := execI_reg' (by kernel_rfl)
noncomputable def b86 : Code := (.seq r86_0 (.seq r86_1 .ret))
theorem body86 : Try.f86.body = some b86 := by kernel_rfl
theorem fn86 : E.fn 86 = some Try.f86 := by kernel_rfl
theorem run86 (args : List D) (h : H) (hl : args.length ≤ 6) : bodyI E 86 args h = resOf E [(.tmp 4)] (execI E 86 6 b86 ⟨argA args, h⟩) := bodyI_res fn86 body86 rfl rfl args h hl

/-! ### 109: gauntlet/equals.meets$1 -/
noncomputable def r109_0 : Code := navF Try.f109 [0]
noncomputable def o109_0 : List Oper := [sop (some 13) (.makeMap 111 none) none,
    sop (some 14) (.build 105 #[]) none,
    sop none (.insert 111 (.tmp 13) (.tmp 14) (.const (.bool true))) none,
    sop (some 15) (.move (.tmp 13)) none,
    sop (some 4) (.assign (.tmp 15)) none]
theorem xr109_0 : Xr 109 95 r109_0 o109_0 [] := execI_reg' (by kernel_rfl)
noncomputable def r109_1 : Code := navF Try.f109 [1, 0]
noncomputable def o109_1 : List Oper := [sop (some 16) (.build 166 #[(1, (.const (.int .i64 (-1))))]) none,
    sop (some 17) (.buildSlice 140 1 #[(0, (.tmp 16))]) none,
    sop (some 5) (.assign (.tmp 17)) none]
theorem xr109_1 : Xr 109 95 r109_1 o109_1 [] := execI_reg' (by kernel_rfl)
noncomputable def r109_2 : Code := navF Try.f109 [1, 1, 0]
noncomputable def o109_2 : List Oper := [sop (some 6) (.assign (.const (.int .i64 0))) none]
theorem xr109_2 : Xr 109 95 r109_2 o109_2 [] := execI_reg' (by kernel_rfl)
noncomputable def l109_0 : Code := navF Try.f109 [1, 1, 1, 0, 0]
noncomputable def r109_3 : Code := navF Try.f109 [1, 1, 1, 0, 0, 0, 0]
noncomputable def o109_3 : List Oper := [sop (some 18) (.move (.tmp 6)) none,
    sop (some 19) (.move (.tmp 5)) none,
    sop (some 20) (.call { callee := (.builtin .len), args := #[(.tmp 19)], argTypes := #[140] }) none,
    sop (some 21) (.binOp .lss 3 (.tmp 18) (.tmp 20) 3) none]
theorem xr109_3 : Xr 109 95 r109_3 o109_3 [] := execI_reg' (by kernel_rfl)
noncomputable def r109_5 : Code := navF Try.f109 [1, 1, 1, 0, 0, 1, 0, 0, 0]
noncomputable def o109_5 : List Oper := [sop (some 24) (.move (.tmp 5)) none,
    sop (some 25) (.move (.tmp 6)) none,
    sop (some 26) (.indexAddr 140 (.tmp 24) (.tmp 25)) none,
    sop (some 27) (.fieldAddr 166 (.tmp 26) 0) none,
    sop (some 28) (.indexAddr 105 (.tmp 27) (.const (.int .i64 0))) none,
    sop (some 29) (.load 3 (.tmp 28)) none,
    sop (some 30) (.move (.tmp 5)) none,
    sop (some 31) (.move (.tmp 6)) none,
    sop (some 32) (.indexAddr 140 (.tmp 30) (.tmp 31)) none,
    sop (some 33) (.fieldAddr 166 (.tmp 32) 0) none,
    sop (some 34) (.indexAddr 105 (.tmp 33) (.const (.int .i64 1))) none,
    sop (some 35) (.load 3 (.tmp 34)) none,
    sop (some 7) (.assign (.tmp 29)) none,
    sop (some 8) (.assign (.tmp 35)) none]
theorem xr109_5 : Xr 109 95 r109_5 o109_5 [(5, 11)] := execI_reg' (by kernel_rfl)
noncomputable def r109_6 : Code := navF Try.f109 [1, 1, 1, 0, 0, 1, 0, 0, 1, 0]
noncomputable def o109_6 : List Oper := [sop (some 36) (.fieldAddr 34 (.tmp 1) 0) none,
    sop (some 37) (.load 3 (.tmp 36)) none,
    sop (some 38) (.move (.const (.int .i64 0))) none]
theorem xr109_6 : Xr 109 95 r109_6 o109_6 [] := execI_reg' (by kernel_rfl)
noncomputable def l109_1 : Code := navF Try.f109 [1, 1, 1, 0, 0, 1, 0, 0, 1, 1, 0, 0]
noncomputable def r109_7 : Code := navF Try.f109 [1, 1, 1, 0, 0, 1, 0, 0, 1, 1, 0, 0, 0]
noncomputable def o109_7 : List Oper := [sop (some 39) (.binOp .lss 3 (.tmp 38) (.tmp 37) 3) none]
theorem xr109_7 : Xr 109 95 r109_7 o109_7 [] := execI_reg' (by kernel_rfl)
noncomputable def r109_8 : Code := navF Try.f109 [1, 1, 1, 0, 0, 1, 0, 0, 1, 1, 0, 0, 1, 1, 0, 0, 0]
noncomputable def o109_8 : List Oper := [sop (some 40) (.move (.tmp 38)) none,
    sop (some 9) (.assign (.tmp 40)) none]
theorem xr109_8 : Xr 109 95 r109_8 o109_8 [] := execI_reg' (by kernel_rfl)
noncomputable def r109_9 : Code := navF Try.f109 [1, 1, 1, 0, 0, 1, 0, 0, 1, 1, 0, 0, 1, 1, 0, 0, 1, 0]
noncomputable def o109_9 : List Oper := [sop (some 41) (.fieldAddr 34 (.tmp 1) 2) none,
    sop (some 42) (.load 32 (.tmp 41)) none,
    sop (some 43) (.move (.tmp 7)) none,
    sop (some 44) (.indexAddr 32 (.tmp 42) (.tmp 43)) none,
    sop (some 45) (.load 72 (.tmp 44)) none,
    sop (some 46) (.move (.tmp 9)) none,
    sop (some 47) (.indexAddr 72 (.tmp 45) (.tmp 46)) none,
    sop (some 48) (.load 55 (.tmp 47)) none,
    sop (some 49) (.fieldAddr 34 (.tmp 2) 2) none,
    sop (some 50) (.load 32 (.tmp 49)) none,
    sop (some 51) (.move (.tmp 8)) none,
    sop (some 52) (.indexAddr 32 (.tmp 50) (.tmp 51)) none,
    sop (some 53) (.load 72 (.tmp 52)) none,
    sop (some 54) (.move (.tmp 9)) none,
    sop (some 55) (.indexAddr 72 (.tmp 53) (.tmp 54)) none,
    sop (some 56) (.load 55 (.tmp 55)) none,
    sop (some 10) (.alloc 55) none,
    sop (some 11) (.alloc 55) none,
    sop none (.store 55 (.tmp 10) (.tmp 48)) none,
    sop none (.store 55 (.tmp 11) (.tmp 56)) none]
theorem xr109_9 : Xr 109 95 r109_9 o109_9 [(1, 9), (4, 9), (7, 9), (1, 12), (4, 12), (7, 12), (1, 15), (4, 15), (7, 15), (1, 16), (4, 16), (7, 16), (9, 16), (12, 16), (15, 16), (1, 17), (4, 17), (7, 17), (9, 17), (12, 17), (15, 17), (16, 17), (9, 18), (12, 18), (15, 18)] := execI_reg' (by kernel_rfl)
noncomputable def r109_10 : Code := navF Try.f109 [1, 1, 1, 0, 0, 1, 0, 0, 1, 1, 0, 0, 1, 1, 0, 0, 1, 1, 0, 0]
noncomputable def o109_10 : List Oper := [sop (some 57) (.move (.tmp 0)) none,
    sop (some 58) (.move (.tmp 6)) none,
    sop (some 59) (.move (.tmp 9)) none,
    sop (some 60) (.load 55 (.tmp 10)) none,
    sop (some 61) (.load 55 (.tmp 11)) none,
    sop (some 62) (.build 139 #[(0, (.tmp 58)), (1, (.tmp 59)), (2, (.tmp 60)), (3, (.tmp 61))]) none,
    sop (some 63) (.move (.tmp 5)) none,
    sop (some 64) (.call { callee := (.value (.tmp 57)), args := #[(.tmp 62), (.tmp 63)], argTypes := #[139, 140] }) none,
    sop (some 65) (.unOp .not 4 (.tmp 64)) none]
theorem xr109_10 : Xr 109 95 r109_10 o109_10 [] := execI_reg' (by kernel_rfl)
noncomputable def r109_11 : Code := navF Try.f109 [1, 1, 1, 0, 0, 1, 0, 0, 1, 1, 0, 0, 1, 1, 0, 0, 1, 1, 1, 0]
noncomputable def o109_11 : List Oper := [sop (some 66) (.fieldAddr 55 (.tmp 10) 0) none,
    sop (some 67) (.load 3 (.tmp 66)) none,
    sop (some 68) (.fieldAddr 55 (.tmp 11) 0) none,
    sop (some 69) (.load 3 (.tmp 68)) none,
    sop (some 70) (.build 105 #[(0, (.tmp 67)), (1, (.tmp 69))]) none,
    sop (some 12) (.alloc 105) none,
    sop none (.store 105 (.tmp 12) (.tmp 70)) none]
theorem xr109_11 : Xr 109 95 r109_11 o109_11 [] := execI_reg' (by kernel_rfl)
noncomputable def r109_12 : Code := navF Try.f109 [1, 1, 1, 0, 0, 1, 0, 0, 1, 1, 0, 0, 1, 1, 0, 0, 1, 1, 1, 1, 0]
noncomputable def o109_12 : List Oper := [sop (some 71) (.fieldAddr 55 (.tmp 10) 0) none,
    sop (some 72) (.load 3 (.tmp 71)) none,
    sop (some 73) (.binOp .neq 3 (.tmp 72) (.const (.int .i64 (-1))) 3) none,
    sop (some 74) (.move (.tmp 73)) none,
    sop (some 75) (.fieldAddr 55 (.tmp 11) 0) (some (3, true)),
    sop (some 76) (.load 3 (.tmp 75)) (some (3, true)),
    sop (some 77) (.binOp .neq 3 (.tmp 76) (.const (.int .i64 (-1))) 3) (some (3, true)),
    sop (some 78) (.pick (.tmp 74) (.tmp 77) (.const (.bool false))) none,
    sop (some 79) (.move (.tmp 78)) none,
    sop (some 80) (.move (.tmp 4)) (some (8, true)),
    sop (some 81) (.load 105 (.tmp 12)) (some (8, true)),
    sop (some 82) (.lookup 111 (.tmp 80) (.tmp 81) false) (some (8, true)),
    sop (some 83) (.unOp .not 4 (.tmp 82)) (some (8, true)),
    sop (some 84) (.pick (.tmp 79) (.tmp 83) (.const (.bool false))) none]
theorem xr109_12 : Xr 109 95 r109_12 o109_12 [] := execI_reg' (by kernel_rfl)
noncomputable def r109_13 : Code := navF Try.f109 [1, 1, 1, 0, 0, 1, 0, 0, 1, 1, 0, 0, 1, 1, 0, 0, 1, 1, 1, 1, 1, 0, 0]
noncomputable def o109_13 : List Oper := [sop (some 85) (.move (.tmp 4)) none,
    sop (some 86) (.load 105 (.tmp 12)) none,
    sop none (.mapUpdate 111 (.tmp 85) (.tmp 86) (.const (.bool true))) none]
theorem xr109_13 : Xr 109 95 r109_13 o109_13 [] := execI_reg' (by kernel_rfl)
noncomputable def r109_14 : Code := navF Try.f109 [1, 1, 1, 0, 0, 1, 0, 0, 1, 1, 0, 0, 1, 1, 0, 0, 1, 1, 1, 1, 1, 0, 1]
noncomputable def o109_14 : List Oper := [sop (some 87) (.move (.tmp 5)) none,
    sop (some 88) (.load 105 (.tmp 12)) none,
    sop (some 89) (.move (.tmp 6)) none,
    sop (some 90) (.move (.tmp 9)) none,
    sop (some 91) (.build 166 #[(0, (.tmp 88)), (1, (.tmp 89)), (2, (.tmp 90))]) none,
    sop (some 92) (.buildSlice 140 1 #[(0, (.tmp 91))]) none,
    sop (some 93) (.call { callee := (.builtin .append), args := #[(.tmp 87), (.tmp 92)], argTypes := #[140, 140] }) none,
    sop (some 5) (.assign (.tmp 93)) none]
theorem xr109_14 : Xr 109 95 r109_14 o109_14 [] := execI_reg' (by kernel_rfl)
noncomputable def r109_15 : Code := navF Try.f109 [1, 1, 1, 0, 0, 1, 0, 0, 1, 1, 0, 0, 1, 1, 1]
noncomputable def o109_15 : List Oper := [sop (some 94) (.binOp .add 3 (.tmp 38) (.const (.int .i64 1)) 3) none,
    sop (some 38) (.move (.tmp 94)) none]
theorem xr109_15 : Xr 109 95 r109_15 o109_15 [] := execI_reg' (by kernel_rfl)
theorem cl109_1 : l109_1 = (.seq r109_7 (.seq (.cond (.tmp 39) .skip (.exit 2)) (.seq (.block 3 (.seq r109_8 (.seq r109_9 (.seq (.seq r109_10 (.cond (.tmp 65) .ret .skip)) (.seq r109_11 (.seq r109_12 (.cond (.tmp 84) (.seq r109_13 r109_14) .skip))))))) r109_15))) := by kernel_rfl
noncomputable def r109_4 : Code := navF Try.f109 [1, 1, 1, 0, 0, 1, 1]
noncomputable def o109_4 : List Oper := [sop (some 22) (.move (.tmp 6)) none,
    sop (some 23) (.binOp .add 3 (.tmp 22) (.const (.int .i64 1)) 3) none,
    sop (some 6) (.assign (.tmp 23)) none]
theorem xr109_4 : Xr 109 95 r109_4 o109_4 [] := execI_reg' (by kernel_rfl)
theorem cl109_0 : l109_0 = (.seq (.seq r109_3 (.cond (.tmp 21) .skip (.exit 0))) (.seq (.block 1 (.seq r109_5 (.seq r109_6 (.block 2 (.loop l109_1))))) r109_4)) := by kernel_rfl
noncomputable def b109 : Code := (.seq r109_0 (.seq r109_1 (.seq r109_2 (.block 0 (.loop l109_0)))))
theorem body109 : Try.f109.body = some b109 := by kernel_rfl
theorem fn109 : E.fn 109 = some Try.f109 := by kernel_rfl
theorem run109 (args : List D) (h : H) (hl : args.length ≤ 95) : bodyI E 109 args h = resOf E [] (execI E 109 95 b109 ⟨argA args, h⟩) := bodyI_res fn109 body109 rfl rfl args h hl

/-! ### 60: gauntlet/equals.differ -/
noncomputable def r60_0 : Code := navF Try.f60 [0]
noncomputable def o60_0 : List Oper := [sop (some 2) (.box 34 (.tmp 0)) none,
    sop (some 3) (.box 34 (.tmp 1)) none,
    sop (some 4) (.alloc 62) none,
    sop (some 5) (.alloc 76) none]
theorem xr60_0 : Xr 60 53 r60_0 o60_0 [] := execI_reg' (by kernel_rfl)
noncomputable def r60_1 : Code := navF Try.f60 [1, 0]
noncomputable def o60_1 : List Oper := [sop (some 10) (.build 105 #[]) none,
    sop (some 11) (.buildSlice 76 1 #[(0, (.tmp 10))]) none,
    sop (some 6) (.alloc 76) none,
    sop none (.store 76 (.tmp 6) (.tmp 11)) none]
theorem xr60_1 : Xr 60 53 r60_1 o60_1 [] := execI_reg' (by kernel_rfl)
noncomputable def r60_2 : Code := navF Try.f60 [1, 1, 0, 0]
noncomputable def o60_2 : List Oper := [sop (some 12) (.load 34 (.tmp 2)) none,
    sop (some 13) (.load 34 (.tmp 3)) none,
    sop (some 14) (.call { callee := (.value (.func 86)), args := #[(.tmp 12), (.tmp 13)], argTypes := #[34, 34] }) none]
theorem xr60_2 : Xr 60 53 r60_2 o60_2 [] := execI_reg' (by kernel_rfl)
noncomputable def g60_0a : Code := navF Try.f60 [1, 1, 0, 1, 0, 0]
noncomputable def g60_0b : Code := navF Try.f60 [1, 1, 0, 1, 0, 1]
noncomputable def r60_3 : Code := navF Try.f60 [1, 1, 0, 1, 0, 0, 0]
noncomputable def o60_3 : List Oper := [sop (some 7) (.alloc 139) none,
    sop none (.store 139 (.tmp 7) (.tmp 15)) none]
theorem xr60_3 : Xr 60 53 r60_3 o60_3 [] := execI_reg' (by kernel_rfl)
noncomputable def r60_4 : Code := navF Try.f60 [1, 1, 0, 1, 0, 0, 1]
noncomputable def o60_4 : List Oper := [sop (some 8) (.assign (.tmp 16)) none]
theorem xr60_4 : Xr 60 53 r60_4 o60_4 [] := execI_reg' (by kernel_rfl)
noncomputable def r60_5 : Code := navF Try.f60 [1, 1, 0, 1, 0, 1, 0, 0, 0]
noncomputable def o60_5 : List Oper := [sop (some 17) (.fieldAddr 139 (.tmp 7) 2) none,
    sop (some 18) (.fieldAddr 55 (.tmp 17) 1) none,
    sop (some 19) (.load 3 (.tmp 18)) none,
    sop (some 20) (.fieldAddr 139 (.tmp 7) 3) none,
    sop (some 21) (.fieldAddr 55 (.tmp 20) 1) none,
    sop (some 22) (.load 3 (.tmp 21)) none,
    sop (some 23) (.binOp .neq 3 (.tmp 19) (.tmp 22) 3) none]
theorem xr60_5 : Xr 60 53 r60_5 o60_5 [] := execI_reg' (by kernel_rfl)
noncomputable def r60_6 : Code := navF Try.f60 [1, 1, 0, 1, 0, 1, 0, 0, 1, 0, 0]
noncomputable def o60_6 : List Oper := [sop (some 24) (.move (.tmp 8)) none,
    sop (some 25) (.fieldAddr 139 (.tmp 7) 0) none,
    sop (some 26) (.load 3 (.tmp 25)) none,
    sop (some 27) (.fieldAddr 139 (.tmp 7) 1) none,
    sop (some 28) (.load 3 (.tmp 27)) none,
    sop (some 29) (.buildSlice 62 1 #[(0, (.tmp 28))]) none,
    sop (some 30) (.call { callee := (.value (.func 87)), args := #[(.tmp 24), (.tmp 26), (.tmp 29)], argTypes := #[140, 3, 62] }) none,
    sop none (.store 62 (.tmp 4) (.tmp 30)) none,
    sop none (.store 76 (.tmp 5) (.const (.slice none 0 0))) none]
theorem xr60_6 : Xr 60 53 r60_6 o60_6 [] := execI_reg' (by kernel_rfl)
noncomputable def r60_7 : Code := navF Try.f60 [1, 1, 0, 1, 0, 1, 0, 1, 0]
noncomputable def o60_7 : List Oper := [sop (some 31) (.fieldAddr 139 (.tmp 7) 2) none,
    sop (some 32) (.fieldAddr 55 (.tmp 31) 0) none,
    sop (some 33) (.load 3 (.tmp 32)) none,
    sop (some 34) (.fieldAddr 139 (.tmp 7) 3) none,
    sop (some 35) (.fieldAddr 55 (.tmp 34) 0) none,
    sop (some 36) (.load 3 (.tmp 35)) none,
    sop (some 37) (.build 105 #[(0, (.tmp 33)), (1, (.tmp 36))]) none,
    sop (some 9) (.alloc 105) none,
    sop none (.store 105 (.tmp 9) (.tmp 37)) none]
theorem xr60_7 : Xr 60 53 r60_7 o60_7 [] := execI_reg' (by kernel_rfl)
noncomputable def r60_8 : Code := navF Try.f60 [1, 1, 0, 1, 0, 1, 0, 1, 1, 0]
noncomputable def o60_8 : List Oper := [sop (some 38) (.fieldAddr 139 (.tmp 7) 2) none,
    sop (some 39) (.fieldAddr 55 (.tmp 38) 0) none,
    sop (some 40) (.load 3 (.tmp 39)) none,
    sop (some 41) (.binOp .neq 3 (.tmp 40) (.const (.int .i64 (-1))) 3) none,
    sop (some 42) (.move (.tmp 41)) none,
    sop (some 43) (.load 76 (.tmp 6)) (some (4, true)),
    sop (some 44) (.load 105 (.tmp 9)) (some (4, true)),
    sop (some 45) (.call { callee := (.value (.func 88)), args := #[(.tmp 43), (.tmp 44)], argTypes := #[76, 105] }) (some (4, true)),
    sop (some 46) (.unOp .not 4 (.tmp 45)) (some (4, true)),
    sop (some 47) (.pick (.tmp 42) (.tmp 46) (.const (.bool false))) none]
theorem xr60_8 : Xr 60 53 r60_8 o60_8 [] := execI_reg' (by kernel_rfl)
noncomputable def r60_9 : Code := navF Try.f60 [1, 1, 0, 1, 0, 1, 0, 1, 1, 1, 0]
noncomputable def o60_9 : List Oper := [sop (some 48) (.load 76 (.tmp 6)) none,
    sop (some 49) (.load 105 (.tmp 9)) none,
    sop (some 50) (.buildSlice 76 1 #[(0, (.tmp 49))]) none,
    sop (some 51) (.call { callee := (.builtin .append), args := #[(.tmp 48), (.tmp 50)], argTypes := #[76, 76] }) none,
    sop none (.store 76 (.tmp 6) (.tmp 51)) none]
theorem xr60_9 : Xr 60 53 r60_9 o60_9 [] := execI_reg' (by kernel_rfl)
theorem cg60_0a : g60_0a = (.seq r60_3 r60_4) := by kernel_rfl
theorem cg60_0b : g60_0b = (.block 1 (.seq (.seq r60_5 (.cond (.tmp 23) (.seq r60_6 .ret) .skip)) (.seq r60_7 (.seq r60_8 (.cond (.tmp 47) r60_9 .skip))))) := by kernel_rfl
noncomputable def r60_10 : Code := navF Try.f60 [1, 1, 1, 0]
noncomputable def o60_10 : List Oper := [sop (some 52) (.load 76 (.tmp 6)) none,
    sop none (.store 62 (.tmp 4) (.const (.slice none 0 0))) none,
    sop none (.store 76 (.tmp 5) (.tmp 52)) none]
theorem xr60_10 : Xr 60 53 r60_10 o60_10 [(0, 1)] := execI_reg' (by kernel_rfl)
noncomputable def b60 : Code := (.seq r60_0 (.seq r60_1 (.seq (.seq r60_2 (.block 0 (.rangeFunc (.tmp 14) #[15, 16] g60_0a g60_0b))) (.seq r60_10 .ret))))
theorem body60 : Try.f60.body = some b60 := by kernel_rfl
theorem fn60 : E.fn 60 = some Try.f60 := by kernel_rfl
theorem run60 (args : List D) (h : H) (hl : args.length ≤ 53) : bodyI E 60 args h = resOf E [(.cell 4 62), (.cell 5 76)] (execI E 60 53 b60 ⟨argA args, h⟩) := bodyI_res fn60 body60 rfl rfl args h hl

/-! ### 25: gauntlet/equals.Differ -/
noncomputable def r25_0 : Code := navF Try.f25 [0]
noncomputable def o25_0 : List Oper := [sop (some 2) (.box 34 (.tmp 0)) none,
    sop (some 3) (.box 34 (.tmp 1)) none,
    sop (some 4) (.assign (.const (.slice none 0 0))) none,
    sop (some 5) (.assign (.const (.bool false))) none,
    sop (some 6) (.assign (.const (.int .i64 0))) none]
theorem xr25_0 : Xr 25 26 r25_0 o25_0 [] := execI_reg' (by kernel_rfl)
noncomputable def r25_1 : Code := navF Try.f25 [1, 0, 0]
noncomputable def o25_1 : List Oper := [sop (some 10) (.load 34 (.tmp 2)) none,
    sop (some 11) (.load 34 (.tmp 3)) none,
    sop (some 12) (.call { callee := (.value (.func 59)), args := #[(.tmp 10), (.tmp 11)], argTypes := #[34, 34] }) none,
    sop (some 7) (.assign (.tmp 12)) none]
theorem xr25_1 : Xr 25 26 r25_1 o25_1 [] := execI_reg' (by kernel_rfl)
noncomputable def r25_2 : Code := navF Try.f25 [1, 0, 1, 0]
noncomputable def o25_2 : List Oper := [sop (some 13) (.move (.tmp 7)) none,
    sop (some 14) (.binOp .neq 40 (.tmp 13) (.const (.int .i64 0)) 40) none]
theorem xr25_2 : Xr 25 26 r25_2 o25_2 [] := execI_reg' (by kernel_rfl)
noncomputable def r25_3 : Code := navF Try.f25 [1, 0, 1, 1, 0, 0]
noncomputable def o25_3 : List Oper := [sop (some 15) (.move (.tmp 7)) none,
    sop (some 4) (.assign (.const (.slice none 0 0))) none,
    sop (some 5) (.assign (.const (.bool false))) none,
    sop (some 6) (.assign (.tmp 15)) none]
theorem xr25_3 : Xr 25 26 r25_3 o25_3 [] := execI_reg' (by kernel_rfl)
noncomputable def r25_4 : Code := navF Try.f25 [1, 1, 0]
noncomputable def o25_4 : List Oper := [sop (some 17) (.load 34 (.tmp 2)) none,
    sop (some 18) (.load 34 (.tmp 3)) none,
    sop (some 19) (.call { callee := (.value (.func 60)), args := #[(.tmp 17), (.tmp 18)], argTypes := #[34, 34] }) none,
    sop (some 16) (.move (.tmp 19)) none,
    sop (some 20) (.extract (.tmp 16) 0) none,
    sop (some 21) (.extract (.tmp 16) 1) none,
    sop (some 8) (.assign (.tmp 20)) none,
    sop (some 9) (.assign (.tmp 21)) none]
theorem xr25_4 : Xr 25 26 r25_4 o25_4 [] := execI_reg' (by kernel_rfl)
noncomputable def r25_5 : Code := navF Try.f25 [1, 1, 1, 0]
noncomputable def o25_5 : List Oper := [sop (some 22) (.move (.tmp 8)) none,
    sop (some 23) (.move (.tmp 8)) none,
    sop (some 24) (.call { callee := (.builtin .len), args := #[(.tmp 23)], argTypes := #[62] }) none,
    sop (some 25) (.binOp .gtr 3 (.tmp 24) (.const (.int .i64 0)) 3) none,
    sop (some 4) (.assign (.tmp 22)) none,
    sop (some 5) (.assign (.tmp 25)) none,
    sop (some 6) (.assign (.const (.int .i64 0))) none]
theorem xr25_5 : Xr 25 26 r25_5 o25_5 [] := execI_reg' (by kernel_rfl)
noncomputable def b25 : Code := (.seq r25_0 (.seq (.seq r25_1 (.seq r25_2 (.cond (.tmp 14) (.seq r25_3 .ret) .skip))) (.seq r25_4 (.seq r25_5 .ret))))
theorem body25 : Try.f25.body = some b25 := by kernel_rfl
theorem fn25 : E.fn 25 = some Try.f25 := by kernel_rfl
theorem run25 (args : List D) (h : H) (hl : args.length ≤ 26) : bodyI E 25 args h = resOf E [(.tmp 4), (.tmp 5), (.tmp 6)] (execI E 25 26 b25 ⟨argA args, h⟩) := bodyI_res fn25 body25 rfl rfl args h hl

/-! ### 19: gauntlet/equals.Equal -/
noncomputable def r19_0 : Code := navF Try.f19 [0]
noncomputable def o19_0 : List Oper := [sop (some 2) (.box 34 (.tmp 0)) none,
    sop (some 3) (.box 34 (.tmp 1)) none,
    sop (some 4) (.assign (.const (.bool false))) none,
    sop (some 5) (.assign (.const (.int .i64 0))) none]
theorem xr19_0 : Xr 19 23 r19_0 o19_0 [] := execI_reg' (by kernel_rfl)
noncomputable def r19_1 : Code := navF Try.f19 [1, 0]
noncomputable def o19_1 : List Oper := [sop (some 10) (.load 34 (.tmp 2)) none,
    sop (some 11) (.load 34 (.tmp 3)) none,
    sop (some 12) (.call { callee := (.value (.func 25)), args := #[(.tmp 10), (.tmp 11)], argTypes := #[34, 34] }) none,
    sop (some 9) (.move (.tmp 12)) none,
    sop (some 13) (.extract (.tmp 9) 0) none,
    sop (some 14) (.extract (.tmp 9) 1) none,
    sop (some 15) (.extract (.tmp 9) 2) none,
    sop (some 6) (.assign (.tmp 13)) none,
    sop (some 7) (.assign (.tmp 14)) none,
    sop (some 8) (.assign (.tmp 15)) none]
theorem xr19_1 : Xr 19 23 r19_1 o19_1 [] := execI_reg' (by kernel_rfl)
noncomputable def r19_2 : Code := navF Try.f19 [1, 1, 0]
noncomputable def o19_2 : List Oper := [sop (some 16) (.move (.tmp 8)) none,
    sop (some 17) (.binOp .eql 40 (.tmp 16) (.const (.int .i64 0)) 40) none,
    sop (some 18) (.move (.tmp 17)) none,
    sop (some 19) (.move (.tmp 7)) (some (2, true)),
    sop (some 20) (.unOp .not 4 (.tmp 19)) (some (2, true)),
    sop (some 21) (.pick (.tmp 18) (.tmp 20) (.const (.bool false))) none,
    sop (some 22) (.move (.tmp 8)) none,
    sop (some 4) (.assign (.tmp 21)) none,
    sop (some 5) (.assign (.tmp 22)) none]
theorem xr19_2 : Xr 19 23 r19_2 o19_2 [] := execI_reg' (by kernel_rfl)
noncomputable def b19 : Code := (.seq r19_0 (.seq r19_1 (.seq r19_2 .ret)))
theorem body19 : Try.f19.body = some b19 := by kernel_rfl
theorem fn19 : E.fn 19 = some Try.f19 := by kernel_rfl
theorem run19 (args : List D) (h : H) (hl : args.length ≤ 23) : bodyI E 19 args h = resOf E [(.tmp 4), (.tmp 5)] (execI E 19 23 b19 ⟨argA args, h⟩) := bodyI_res fn19 body19 rfl rfl args h hl

/-! ### 4: gauntlet/gauntletlaw10.EqualsEqual -/
noncomputable def r4_0 : Code := navF Try.f4 [0]
noncomputable def o4_0 : List Oper := [sop (some 2) (.box 57 (.tmp 0)) none,
    sop (some 3) (.box 59 (.tmp 1)) none,
    sop (some 4) (.assign (.const (.bool false))) none]
theorem xr4_0 : Xr 4 59 r4_0 o4_0 [] := execI_reg' (by kernel_rfl)
noncomputable def r4_1 : Code := navF Try.f4 [1, 0]
noncomputable def o4_1 : List Oper := [sop (some 13) (.load 57 (.tmp 2)) none,
    sop (some 14) (.call { callee := (.value (.func 17)), args := #[(.tmp 13)], argTypes := #[57] }) none,
    sop (some 12) (.move (.tmp 14)) none,
    sop (some 15) (.extract (.tmp 12) 0) none,
    sop (some 16) (.extract (.tmp 12) 1) none,
    sop (some 5) (.alloc 34) none,
    sop (some 6) (.alloc 34) none,
    sop none (.store 34 (.tmp 5) (.tmp 15)) none,
    sop none (.store 34 (.tmp 6) (.tmp 16)) none]
theorem xr4_1 : Xr 4 59 r4_1 o4_1 [] := execI_reg' (by kernel_rfl)
noncomputable def r4_2 : Code := navF Try.f4 [1, 1, 0]
noncomputable def o4_2 : List Oper := [sop (some 17) (.load 59 (.tmp 3)) none,
    sop (some 18) (.fieldAddr 34 (.tmp 5) 0) none,
    sop (some 19) (.load 3 (.tmp 18)) none,
    sop (some 20) (.call { callee := (.value (.func 18)), args := #[(.tmp 17), (.tmp 19)], argTypes := #[59, 3] }) none,
    sop (some 7) (.assign (.tmp 20)) none]
theorem xr4_2 : Xr 4 59 r4_2 o4_2 [] := execI_reg' (by kernel_rfl)
noncomputable def r4_3 : Code := navF Try.f4 [1, 1, 1, 0]
noncomputable def o4_3 : List Oper := [sop (some 22) (.load 34 (.tmp 5)) none,
    sop (some 23) (.load 34 (.tmp 6)) none,
    sop (some 24) (.call { callee := (.value (.func 19)), args := #[(.tmp 22), (.tmp 23)], argTypes := #[34, 34] }) none,
    sop (some 21) (.move (.tmp 24)) none,
    sop (some 25) (.extract (.tmp 21) 0) none,
    sop (some 26) (.extract (.tmp 21) 1) none,
    sop (some 8) (.assign (.tmp 25)) none,
    sop (some 9) (.assign (.tmp 26)) none]
theorem xr4_3 : Xr 4 59 r4_3 o4_3 [] := execI_reg' (by kernel_rfl)
noncomputable def r4_4 : Code := navF Try.f4 [1, 1, 1, 1, 0]
noncomputable def o4_4 : List Oper := [sop (some 27) (.load 34 (.tmp 5)) none,
    sop (some 28) (.call { callee := (.value (.func 20)), args := #[(.tmp 27)], argTypes := #[34] }) none,
    sop (some 29) (.load 34 (.tmp 6)) none,
    sop (some 30) (.call { callee := (.value (.func 20)), args := #[(.tmp 29)], argTypes := #[34] }) none,
    sop (some 10) (.alloc 34) none,
    sop (some 11) (.alloc 34) none,
    sop none (.store 34 (.tmp 10) (.tmp 28)) none,
    sop none (.store 34 (.tmp 11) (.tmp 30)) none]
theorem xr4_4 : Xr 4 59 r4_4 o4_4 [(0, 2), (1, 2), (0, 4), (1, 4), (2, 4), (3, 4), (0, 5), (1, 5), (2, 5), (3, 5), (4, 5)] := execI_reg' (by kernel_rfl)
noncomputable def r4_5 : Code := navF Try.f4 [1, 1, 1, 1, 1, 0]
noncomputable def o4_5 : List Oper := [sop (some 31) (.fieldAddr 34 (.tmp 10) 1) none,
    sop (some 32) (.load 3 (.tmp 31)) none,
    sop (some 33) (.fieldAddr 34 (.tmp 11) 1) none,
    sop none (.store 3 (.tmp 33) (.tmp 32)) none]
theorem xr4_5 : Xr 4 59 r4_5 o4_5 [] := execI_reg' (by kernel_rfl)
noncomputable def r4_6 : Code := navF Try.f4 [1, 1, 1, 1, 1, 1, 0]
noncomputable def o4_6 : List Oper := [sop (some 34) (.move (.tmp 9)) none,
    sop (some 35) (.binOp .eql 40 (.tmp 34) (.const (.int .i64 0)) 40) none,
    sop (some 36) (.move (.tmp 35)) none,
    sop (some 37) (.move (.tmp 8)) (some (2, true)),
    sop (some 38) (.load 34 (.tmp 10)) (some (2, true)),
    sop (some 39) (.load 34 (.tmp 11)) (some (2, true)),
    sop (some 40) (.call { callee := (.value (.func 16)), args := #[(.tmp 38), (.tmp 39)], argTypes := #[34, 34] }) (some (2, true)),
    sop (some 41) (.binOp .eql 4 (.tmp 37) (.tmp 40) 4) (some (2, true)),
    sop (some 42) (.pick (.tmp 36) (.tmp 41) (.const (.bool false))) none,
    sop (some 43) (.move (.tmp 42)) none,
    sop (some 44) (.move (.tmp 8)) (some (9, true)),
    sop (some 45) (.unOp .not 4 (.tmp 44)) (some (9, true)),
    sop (some 46) (.move (.tmp 45)) (some (9, true)),
    sop (some 47) (.load 34 (.tmp 5)) (some (12, false)),
    sop (some 48) (.move (.tmp 7)) (some (12, false)),
    sop (some 49) (.call { callee := (.value (.func 22)), args := #[(.tmp 47), (.const (.int .i64 0)), (.tmp 48)], argTypes := #[34, 3, 62] }) (some (12, false)),
    sop (some 50) (.load 34 (.tmp 6)) (some (12, false)),
    sop (some 51) (.move (.tmp 7)) (some (12, false)),
    sop (some 52) (.call { callee := (.value (.func 22)), args := #[(.tmp 50), (.const (.int .i64 0)), (.tmp 51)], argTypes := #[34, 3, 62] }) (some (12, false)),
    sop (some 53) (.call { callee := (.value (.func 21)), args := #[(.tmp 49), (.tmp 52)], argTypes := #[62, 62] }) (some (12, false)),
    sop (some 54) (.pick (.tmp 46) (.const (.bool true)) (.tmp 53)) (some (9, true)),
    sop (some 55) (.pick (.tmp 43) (.tmp 54) (.const (.bool false))) none,
    sop (some 56) (.move (.tmp 55)) none,
    sop (some 57) (.call { callee := (.value (.func 23)), args := #[], argTypes := #[] }) (some (22, true)),
    sop (some 58) (.pick (.tmp 56) (.tmp 57) (.const (.bool false))) none,
    sop (some 4) (.assign (.tmp 58)) none]
theorem xr4_6 : Xr 4 59 r4_6 o4_6 [(4, 5), (13, 16), (15, 16)] := execI_reg' (by kernel_rfl)
noncomputable def b4 : Code := (.seq r4_0 (.seq r4_1 (.seq r4_2 (.seq r4_3 (.seq r4_4 (.seq r4_5 (.seq r4_6 .ret)))))))
theorem body4 : Try.f4.body = some b4 := by kernel_rfl
theorem fn4 : E.fn 4 = some Try.f4 := by kernel_rfl
theorem run4 (args : List D) (h : H) (hl : args.length ≤ 59) : bodyI E 4 args h = resOf E [(.tmp 4)] (execI E 4 59 b4 ⟨argA args, h⟩) := bodyI_res fn4 body4 rfl rfl args h hl
end Go.Eng.E3

namespace Go.Eng.E3
open Go Go.Eng Go.Proofs
set_option maxRecDepth 100000
attribute [local simp] execR runOps stepOp wantedD evalOp opd upd St.put Eff.apply upds looseOk FP.free FP.idle apart Eff.fp ofVal loadD storeD partD setPart indexAddrD isShift arith unD callOp mapO D.okc pickD buildable buildD placeD convD
set_option linter.unusedSimpArgs false
set_option linter.unusedVariables false
set_option maxHeartbeats 4000000

/-! ### (D).Of -/

/-- A list of numbers in the heap. -/
def IL (h : H) (v : D) (l : List Int) (lo hi : Nat) : Prop := (l = [] ∧ v = .frz [] .nil) ∨ ∃ b ex, v = .sl b 1 0 l.length ex ∧ h.blk b = .live 1 (l.map (D.int .i64)) ∧ lo ≤ b ∧ b < hi

theorem IL.frame {h h' : H} {v : D} {l : List Int} {lo hi hi' : Nat} (m : IL h v l lo hi) (e : ∀ b, lo ≤ b → b < hi → h'.blk b = h.blk b) (hh : hi ≤ hi') : IL h' v l lo hi' := by
  rcases m with m | ⟨b, ex, h1, h2, h3, h4⟩
  · exact .inl m
  · exact .inr ⟨b, ex, h1, by rw [e b h3 h4]; exact h2, h3, by omega⟩

theorem app62s0 {mu : TypeId → Bool} {s c : Nat} {blk : Nat → Blk} {x : D} {ex : Bool} (hmu : mu 62 = true) (hc : blk c = .live 1 [x]) (hx : x.cells.length = 1) :
    builtinD E.T mu s blk .append [62, 62] [.frz [] .nil, .sl c 1 0 1 ex] = some { v := .sl s 1 0 1 false, wr := [(s, .live 1 [x])], rd := [c] } := by
  simp only [builtinD, ok_62, desc_62, if_true, appendD, elem_62, elemsD, hc, row_live, hmu, size_3, bytes_3]
  simp [hx, maxAppend]

theorem app62s1 {mu : TypeId → Bool} {s b c n : Nat} {blk : Nat → Blk} {x : D} {ex ex' : Bool} {xs : List D} (hc : blk c = .live 1 [x]) (hx : x.cells.length = 1) (hb : blk b = .live 1 xs) (hn : n = xs.length) (hbc : b ≠ c) (hl : n < 2 ^ 39) :
    builtinD E.T mu s blk .append [62, 62] [.sl b 1 0 n ex', .sl c 1 0 1 ex] = some { v := .sl s 1 0 (n + 1) false, wr := [(b, .dead), (s, .live 1 (xs ++ [x]))], rd := [b, c] } := by
  have hle : (n + 1) * 8 * 2 ≤ maxAppend := by unfold maxAppend; omega
  simp only [builtinD, ok_62, desc_62, if_true, appendD, elem_62, elemsD, hc, hb, row_live, size_3, bytes_3]
  simp [hx, hle, hn, hbc]
  omega

structure F17 (a : M) (d : D) (to : List Int) (T : Nat) (st : St) : Prop where
  h1 : st.A 1 = .ptr 0 0 0
  h2 : st.A 2 = .ptr 1 0 0
  h3 : st.A 3 = .ptr 2 0 0
  h4 : st.A 4 = .ptr 6 0 0
  h5 : st.A 5 = .int .i64 a.rows.length
  b0 : st.h.blk 0 = .live 17 [d]
  b1 : ∃ z, st.h.blk 1 = .live 3 [.agg [.int .i64 0, .int .i64 0, z]]
  b2 : ∃ z, st.h.blk 2 = .live 3 [.agg [.int .i64 0, .int .i64 0, z]]
  b6 : st.h.blk 6 = .live 3 [encM a]
  ht : IL st.h (st.A 6) to 7 T
  rg : ∀ x ∈ to, 0 ≤ x ∧ x < a.rows.length
  hT : 8 ≤ T
  hn : T ≤ st.h.next

theorem F17.step {a : M} {d : D} {to : List Int} {T T' : Nat} {A A' : Nat → D} {h h' : H} (f : F17 a d to T ⟨A, h⟩) (e : ∀ t, t < 7 → A' t = A t) (hb : ∀ b, b < T → h'.blk b = h.blk b) (ht : T ≤ T') (hn : T' ≤ h'.next) : F17 a d to T' ⟨A', h'⟩ := by
  obtain ⟨q1, q2, q3, q4, q5, r0, ⟨z1, r1⟩, ⟨z2, r2⟩, r6, m, rg, hT, hn'⟩ := f
  simp only at q1 q2 q3 q4 q5 r0 r1 r2 r6 m hn'
  refine ⟨(e 1 (by omega)).trans q1, (e 2 (by omega)).trans q2, (e 3 (by omega)).trans q3, (e 4 (by omega)).trans q4, (e 5 (by omega)).trans q5, (hb 0 (by omega)).trans r0, ⟨z1, (hb 1 (by omega)).trans r1⟩, ⟨z2, (hb 2 (by omega)).trans r2⟩, (hb 6 (by omega)).trans r6, ?_, rg, by omega, hn⟩
  simp only [e 6 (by omega)]
  exact m.frame (fun b _ hb' => hb b hb') ht

theorem mu17 : E.pol.mu 17 62 = true := by decide

structure I17a (a : M) (d : D) (k : Nat) (st : St) : Prop where
  le : k ≤ a.rows.length
  ex : ∃ to, F17 a d to st.h.next st ∧ to.length = a.rows.length - k
  h7 : st.A 7 = .int .i64 ((a.rows.length - k : Nat) : Int)

theorem loop17a {a : M} (hv : Valid a) {d : D} {Q : Po} (hQ : ∀ st, I17a a d 0 st → Q.x 0 st) (k : Nat) (st : St) (hI : I17a a d k st) : V E 17 144 (.loop l17_0) st Q := by
  have r2 := hv.r2
  refine V.count (I17a a d) ?_ ?_ k st hI
  · rintro k ⟨A, h⟩ ⟨le, ⟨to, f, hl⟩, h7⟩
    have hlt : a.rows.length - (k + 1) < a.rows.length := by omega
    generalize hi : a.rows.length - (k + 1) = i at *
    have hk' : a.rows.length - k = i + 1 := by omega
    have hwr : IntKind.i64.wrap ((i : Int) + 1) = ((i + 1 : Nat) : Int) := by rw [wrap_id] <;> omega
    obtain ⟨h1, h2, h3, h4, h5, b0, b1, b2, b6, ht, rg, hT, hn⟩ := id f
    simp only at h1 h2 h3 h4 h5 b0 b1 b2 b6 ht hT h7
    rw [cl17_0]
    refine .assoc (.then xr17_8 (by simp [o17_8, builtinD, lenD, pD, argA, h5, h7, hlt]; rfl) ?_)
    refine .head (v := true) (by simp [opd, upd]) (fun _ => ?_) (fun q => by cases q)
    have fin : ∀ (A2 : Nat → D) (h2 : H), (∀ t, t < 6 ∨ t = 7 → A2 t = A t) → (∀ b, b < h.next → (∀ n ex, A 6 ≠ .sl b 1 0 n ex) → h2.blk b = h.blk b) → h.next ≤ h2.next → IL h2 (A2 6) (to ++ [(i : Int)]) 7 h2.next → V E 17 144 r17_9 ⟨A2, h2⟩ (Q.upto (I17a a d k)) := by
      intro A2 h2' eA eb hnx hil
      have nb : ∀ b, b < 7 → h2'.blk b = h.blk b := fun b hb => by
        refine eb b (by omega) (fun n ex e => ?_)
        rcases ht with ⟨_, e'⟩ | ⟨tb, ex', e', _, q, _⟩
        · rw [e'] at e; cases e
        · rw [e'] at e; injection e with e1; omega
      have e7 := (eA 7 (by omega)).trans h7
      obtain ⟨z1, b1⟩ := b1
      obtain ⟨z2, b2⟩ := b2
      refine .reg xr17_9 (by simp [o17_9, builtinD, lenD, pD, argA, e7]; rfl) ⟨by omega, ⟨to ++ [(i : Int)], ⟨?_, ?_, ?_, ?_, ?_, ?_, ⟨z1, ?_⟩, ⟨z2, ?_⟩, ?_, ?_, ?_, ?_, Nat.le_refl _⟩, by simp [hl, hk']⟩, ?_⟩
      · simp [upd, eA, h1]
      · simp [upd, eA, h2]
      · simp [upd, eA, h3]
      · simp [upd, eA, h4]
      · simp [upd, eA, h5]
      · simpa [upds] using (nb 0 (by omega)).trans b0
      · simpa [upds] using (nb 1 (by omega)).trans b1
      · simpa [upds] using (nb 2 (by omega)).trans b2
      · simpa [upds] using (nb 6 (by omega)).trans b6
      · rcases hil with ⟨e1, _⟩ | ⟨tb, ex, e1, e2, e3, e4⟩
        · simp at e1
        · exact .inr ⟨tb, ex, by simpa [upd] using e1, by simpa [upds] using e2, e3, by simp; omega⟩
      · intro x hx
        rcases List.mem_append.1 hx with hx | hx
        · exact rg x hx
        · simp at hx; subst hx; omega
      · simp; omega
      · simp [upd, hk', hwr]
    refine .seq (.block ?_)
    have n1 : ∀ j, ¬ h.next + 3 + 2 = h.next + 3 + 3 + j := by omega
    rcases ht with ⟨rfl, h6⟩ | ⟨tb, ex, h6, e2, e3, e4⟩
    · refine .reg xr17_10 (by simp [o17_10, pD, argA, h6, h7, mu17, show List.range 1 = [0] from rfl, app62s0 mu17]; exact ⟨rfl, rfl⟩) (fin _ _ (fun t ht => ?_) (fun b hb _ => ?_) (by simp; omega) (.inr ⟨h.next + 3 + 3, false, by simp [upd], by simp [upds, upd], by omega, by simp⟩))
      · rcases ht with ht | rfl
        · simp [upd, show t ≠ 6 by omega, show ∀ c, 33 ≤ c → ¬ t = c from fun c h => by omega]
        · simp [upd]
      · simp [upds, upd, show ¬ b = h.next + 3 + 2 by omega, show ¬ b = h.next + 3 + 3 by omega]
    · have n2 : ¬ tb = h.next + 3 + 2 := by omega
      have n3 : ¬ tb = h.next + 3 + 3 := by omega
      have ap : ∀ (blk : Nat → Blk) s c, blk c = .live 1 [.int .i64 i] → blk tb = .live 1 (to.map (D.int .i64)) → tb ≠ c → builtinD E.T (E.pol.mu 17) s blk .append [62, 62] [.sl tb 1 0 to.length ex, .sl c 1 0 1 true] = some { v := .sl s 1 0 (to.length + 1) false, wr := [(tb, .dead), (s, .live 1 (to.map (D.int .i64) ++ [.int .i64 i]))], rd := [tb, c] } := fun blk s c q1 q2 q3 => app62s1 q1 rfl q2 (by simp) q3 (by omega)
      refine .reg xr17_10 (by simp [o17_10, pD, argA, h6, h7, mu17, show List.range 1 = [0] from rfl, ap, e2, n2]; exact ⟨rfl, rfl⟩) (fin _ _ (fun t ht => ?_) (fun b hb hne => ?_) (by simp; omega) (.inr ⟨h.next + 3 + 3, false, by simp [upd], by simp [upds, upd], by omega, by simp⟩))
      · rcases ht with ht | rfl
        · simp [upd, show t ≠ 6 by omega, show ∀ c, 33 ≤ c → ¬ t = c from fun c h => by omega]
        · simp [upd]
      · have : ¬ b = tb := fun e => hne to.length ex (by rw [h6, e])
        simp [upds, upd, show ¬ b = h.next + 3 + 2 by omega, show ¬ b = h.next + 3 + 3 by omega, this]
  · rintro ⟨A, h⟩ ⟨le, ⟨to, f, hl⟩, h7⟩
    have h5 := f.h5
    simp only at h5 h7
    rw [cl17_0]
    refine .assoc (.then xr17_8 (by simp [o17_8, builtinD, lenD, pD, argA, h5, h7]; rfl) ?_)
    refine .head (v := false) (by simp [opd, upd]) (fun q => by cases q) (fun _ => hQ _ ⟨by omega, ⟨to, ?_, hl⟩, by simp [upd, h7]⟩)
    exact f.step (fun t ht => by simp [upd, show ∀ c, 33 ≤ c → ¬ t = c from fun c h => by omega]) (fun _ _ => rfl) (by simp) (Nat.le_refl _)

/-- The second machine on its way. -/
structure G17 (a : M) (d : D) (to : List Int) (lo hi c10 : Nat) (rows : List (List (Int × Int))) (st : St) : Prop where
  f : F17 a d to lo st
  tl : to.length = a.rows.length
  h10 : st.A 10 = .ptr c10 0 0
  b10 : ∃ b, st.h.blk c10 = .live 3 [.agg [.int .i64 a.ins, .int .i64 a.outs, .sl b 1 0 a.rows.length false]] ∧ MatE st.h (.sl b 1 0 a.rows.length false) rows a.ins lo hi
  lh : lo ≤ hi
  hc : c10 < lo
  cn : hi ≤ st.h.next
  rl : rows.length = a.rows.length
  rk : ∀ r ∈ rows, r.length = a.ins
  ok : ∀ r ∈ rows, ∀ e ∈ r, EdgeOk a e

theorem G17.step {a : M} {d : D} {to : List Int} {lo hi c10 : Nat} {rows : List (List (Int × Int))} {A A' : Nat → D} {h h' : H} (g : G17 a d to lo hi c10 rows ⟨A, h⟩) (e : ∀ t, t < 7 ∨ t = 10 → A' t = A t) (hb : ∀ b, b < h.next → h'.blk b = h.blk b) (hn : h.next ≤ h'.next) : G17 a d to lo hi c10 rows ⟨A', h'⟩ := by
  obtain ⟨f, tl, h10, ⟨b, b10, m⟩, lh, hc, cn, rl, rk, ok⟩ := g
  simp only at h10 b10 m cn
  refine ⟨f.step (fun t ht => e t (.inl ht)) (fun b hb' => hb b (by omega)) (Nat.le_refl _) (by omega), tl, (e 10 (.inr rfl)).trans h10, ⟨b, (hb c10 (by omega)).trans b10, m.frame (fun b _ hb' => hb b (by omega))⟩, lh, hc, by simp only; omega, rl, rk, ok⟩

structure J17 (a : M) (d : D) (to : List Int) (lo hi c10 s k : Nat) (st : St) : Prop where
  le : k ≤ a.ins
  g : ∃ rows, G17 a d to lo hi c10 rows st
  h11 : st.A 11 = .int .i64 s
  h12 : st.A 12 = .int .i64 ((a.ins - k : Nat) : Int)

theorem loop17c {a : M} (hv : Valid a) {d : D} {to : List Int} {lo hi c10 s : Nat} (hs : s < a.rows.length) {Q : Po} (hQ : ∀ st, J17 a d to lo hi c10 s 0 st → Q.x 4 st) (k : Nat) (st : St) (hI : J17 a d to lo hi c10 s k st) : V E 17 144 (.loop l17_2) st Q := by
  have i2 := hv.i2
  refine V.count (J17 a d to lo hi c10 s) ?_ ?_ k st hI
  · rintro k ⟨A, h⟩ ⟨le, ⟨rows, g⟩, h11, h12⟩
    have hlt : a.ins - (k + 1) < a.ins := by omega
    generalize hi' : a.ins - (k + 1) = i at *
    have hk' : a.ins - k = i + 1 := by omega
    have hwr : IntKind.i64.wrap ((i : Int) + 1) = ((i + 1 : Nat) : Int) := by rw [wrap_id] <;> omega
    obtain ⟨f, tl, h10, ⟨b, b10, m⟩, lh, hc, cn, rl, rk, ok⟩ := id g
    obtain ⟨h1, h2, h3, h4, h5, b0, b1, b2, b6, ht, rg, hT, hn⟩ := id f
    simp only at h10 b10 m cn h1 h2 h3 h4 h5 b0 b1 b2 b6 ht hn h11 h12
    have hsl : i < a.rows[s].length := by rw [hv.len _ (List.getElem_mem hs)]; exact hlt
    have hxok := hv.ok _ (List.getElem_mem hs) _ (List.getElem_mem hsl)
    obtain ⟨x, hx⟩ : ∃ x, a.rows[s][i] = x := ⟨_, rfl⟩
    rw [hx] at hxok
    rcases ht with ⟨e0, _⟩ | ⟨tb, ex, h6, e2, e3, e4⟩
    · rw [e0] at tl; simp at tl; omega
    obtain ⟨t, hts, htb⟩ : ∃ t : Nat, to[s]'(by omega) = (t : Int) ∧ t < a.rows.length := by
      have := rg _ (List.getElem_mem (show s < to.length by omega))
      exact ⟨(to[s]'(by omega)).toNat, by omega, by omega⟩
    have htl : s < to.length := by omega
    have hslI : (s : Int) < a.rows.length := by omega
    have hslI2 : (s : Int) < to.length := by omega
    have htI : (t : Int) < a.rows.length := by omega
    have hilI : (i : Int) < a.ins := by omega
    rw [cl17_2]
    refine .assoc (.then xr17_19 (by simp [o17_19, builtinD, lenD, pD, argA, h4, h12, b6, encM, hlt]; rfl) ?_)
    refine .head (v := true) (by simp [opd, upd]) (fun _ => ?_) (fun q => by cases q)
    -- behind the change of the edge
    have rest : ∀ (A2 : Nat → D) (h2 : H) (c : Nat) (y : Int × Int), (∀ t, t < 7 ∨ t = 10 ∨ t = 11 ∨ t = 12 → A2 t = A t) → A2 13 = .ptr c 0 0 → h2.blk c = .live 2 [.agg [.int .i64 y.1, .int .i64 y.2]] → (∀ b, b < h.next → h2.blk b = h.blk b) → h.next ≤ c → c < h2.next → EdgeOk a y →
        V E 17 144 r17_24 ⟨A2, h2⟩ (((Q.upto (J17 a d to lo hi c10 s k)).upto fun s' => V E 17 144 r17_20 s' (Q.upto (J17 a d to lo hi c10 s k))).within 5) := by
      intro A2 h2' c y eA e13 ec eb k1 k2 hy
      have g2 := g.step (A' := A2) (h' := h2') (fun t ht => eA t (by omega)) eb (by omega)
      obtain ⟨f', tl', h10', ⟨b', b10', m'⟩, lh', hc', cn', rl', rk', ok'⟩ := g2
      simp only at h10' b10' m' cn'
      have e6 := (eA 6 (by omega)).trans h6
      have e11 := (eA 11 (by omega)).trans h11
      have e12 := (eA 12 (by omega)).trans h12
      have et := (eb tb (by omega)).trans e2
      have m0 := m'
      rcases m0 with ⟨e0, ev⟩ | ⟨b2', bs, _, ev, g2, g3, g4, g5, g6, g7, g8⟩
      · cases ev
      injection ev with ev1 _ _ _ _
      subst ev1
      have htbs : t < bs.length := by omega
      have htr : t < rows.length := by omega
      obtain ⟨w1, w2⟩ := g8 t bs[t] rows[t] (List.getElem?_eq_getElem htbs) (List.getElem?_eq_getElem htr)
      obtain ⟨w3, w4, w5⟩ := g6 _ (List.getElem_mem htbs)
      have hti : i < rows[t].length := by omega
      have n1 : ¬ c = b' := by omega
      have n2 : ¬ c = bs[t] := by omega
      have n3 : ¬ bs[t] = c10 := by omega
      have n4 : ¬ b' = c10 := by omega
      refine .reg xr17_24 (by simp [o17_24, builtinD, lenD, pD, argA, h10', b10', e6, e11, e12, e13, ec, et, htl, hslI2, hts, htb, htI, g2, htbs, rowE, hilI, w1, hti, hlt]; rfl) ?_
      show V E 17 144 r17_20 _ _
      have hput : MatE ⟨h2'.next + 12, upd h2'.blk bs[t] (.live 2 ((rows[t].map pD).set i (.agg [.int .i64 y.1, .int .i64 y.2])))⟩ (.sl b' 1 0 a.rows.length false) (rows.set t (rows[t].set i y)) a.ins lo hi := by
        refine m'.put g2 (List.getElem?_eq_getElem htbs) htr (by simpa using w2) ?_ (fun x hx => upd_ne _ _ _ _ hx)
        simp [List.map_set, pD]
      refine .reg xr17_20 (by simp [o17_20, builtinD, lenD, pD, argA, e12]; rfl) ⟨by omega, ⟨rows.set t (rows[t].set i y), ?_, tl, ?_, ⟨b', ?_, ?_⟩, lh, hc, ?_, by simpa using rl, ?_, ?_⟩, ?_, ?_⟩
      · refine f'.step (fun t ht => by simp [upd, show t ≠ 12 by omega, show ∀ c, 85 ≤ c → ¬ t = c from fun c h => by omega]) (fun x hx => ?_) (Nat.le_refl _) (by simp; omega)
        simp [upds, upd, show ¬ x = bs[t] by omega]
      · simp [upd, h10']
      · simp [upds, upd, show ¬ c10 = bs[t] from fun e => n3 e.symm, b10']
      · refine hput.frame (fun x _ _ => ?_)
        simp [upds, upd]
      · simp; omega
      · intro r hr
        rcases List.mem_or_eq_of_mem_set hr with hr | rfl
        · exact rk r hr
        · simpa using w2
      · intro r hr e he
        rcases List.mem_or_eq_of_mem_set hr with hr | rfl
        · exact ok r hr e he
        · rcases List.mem_or_eq_of_mem_set he with he | rfl
          · exact ok _ (List.getElem_mem htr) e he
          · exact hy
      · simp [upd, e11]
      · simp [upd, hk', hwr]
    refine .seq (.block (.then xr17_21 (by simp [o17_21, builtinD, lenD, pD, argA, h4, h11, h12, b6, encM, hs, hslI, hsl, hx, rowD]; rfl) ?_))
    refine .assoc (.then xr17_22 (by simp [o17_22, builtinD, lenD, pD, argA]; rfl) ?_)
    by_cases c1 : 0 ≤ x.1
    · have hxb : x.1 < (to.length : Int) := by rcases hxok with rfl | q; exact absurd c1 (by decide); omega
      have hxn : x.1.toNat < to.length := by omega
      have n1 : ¬ tb = h.next + 4 + 8 := by omega
      refine .seq (.cond (v := true) (by simp [opd, upd, c1]) (fun _ => ?_) (fun q => by cases q))
      refine .reg xr17_23 (by simp [o17_23, builtinD, lenD, pD, argA, h6, e2, c1, hxb, hxn, n1]; rfl) ?_
      refine rest _ _ (h.next + 4 + 8) (to[x.1.toNat], x.2) (fun t ht => ?_) (by simp [upd]) (by simp [upds, upd]) (fun b hb => ?_) (by omega) (by simp) ?_
      · simp [upd, show ∀ c, 13 ≤ c → ¬ t = c from fun c h => by omega]
      · simp [upds, upd, show ¬ b = h.next + 4 + 8 by omega]
      · have := rg _ (List.getElem_mem hxn)
        rcases hxok with rfl | q
        · exact absurd c1 (by decide)
        · exact .inr ⟨this.1, this.2, q.2.2.1, q.2.2.2⟩
    · refine .seq (.cond (v := false) (by simp [opd, upd]; omega) (fun q => by cases q) (fun _ => .skip ?_))
      refine rest _ _ (h.next + 4 + 8) x (fun t ht => ?_) (by simp [upd]) (by simp [upds, upd]) (fun b hb => ?_) (by omega) (by simp) hxok
      · simp [upd, show ∀ c, 13 ≤ c → ¬ t = c from fun c h => by omega]
      · simp [upds, upd, show ¬ b = h.next + 4 + 8 by omega]
  · rintro ⟨A, h⟩ ⟨le, ⟨rows, g⟩, h11, h12⟩
    have h4 := g.f.h4
    have b6 := g.f.b6
    simp only at h4 b6 h11 h12
    rw [cl17_2]
    refine .assoc (.then xr17_19 (by simp [o17_19, builtinD, lenD, pD, argA, h4, h12, b6, encM]; rfl) ?_)
    refine .head (v := false) (by simp [opd, upd]) (fun q => by cases q) (fun _ => hQ _ ⟨by omega, ⟨rows, ?_⟩, by simp [upd, h11], by simp [upd, h12]⟩)
    exact g.step (fun t ht => by simp [upd, show ∀ c, 81 ≤ c → ¬ t = c from fun c h => by omega]) (fun _ _ => rfl) (by simp)
end Go.Eng.E3

namespace Go.Eng.E3
open Go Go.Eng Go.Proofs
set_option maxRecDepth 100000
attribute [local simp] execR runOps stepOp wantedD evalOp opd upd St.put Eff.apply upds looseOk FP.free FP.idle apart Eff.fp ofVal loadD storeD partD setPart indexAddrD isShift arith unD callOp mapO D.okc pickD buildable buildD placeD convD
set_option linter.unusedSimpArgs false
set_option linter.unusedVariables false
set_option maxHeartbeats 4000000

structure K17 (a : M) (d : D) (to : List Int) (lo hi c10 k : Nat) (st : St) : Prop where
  le : k ≤ a.rows.length
  g : ∃ rows, G17 a d to lo hi c10 rows st
  h11 : st.A 11 = .int .i64 ((a.rows.length - k : Nat) : Int)

theorem loop17b {a : M} (hv : Valid a) {d : D} {to : List Int} {lo hi c10 : Nat} {Q : Po} (hQ : ∀ st, K17 a d to lo hi c10 0 st → Q.x 2 st) (k : Nat) (st : St) (hI : K17 a d to lo hi c10 k st) : V E 17 144 (.loop l17_1) st Q := by
  have r2 := hv.r2
  refine V.count (K17 a d to lo hi c10) ?_ ?_ k st hI
  · rintro k ⟨A, h⟩ ⟨le, ⟨rows, g⟩, h11⟩
    have hlt : a.rows.length - (k + 1) < a.rows.length := by omega
    generalize hi' : a.rows.length - (k + 1) = i at *
    have hk' : a.rows.length - k = i + 1 := by omega
    have hwr : IntKind.i64.wrap ((i : Int) + 1) = ((i + 1 : Nat) : Int) := by rw [wrap_id] <;> omega
    have h5 := g.f.h5
    simp only at h5 h11
    rw [cl17_1]
    refine .assoc (.then xr17_16 (by simp [o17_16, builtinD, lenD, pD, argA, h5, h11, hlt]; rfl) ?_)
    refine .head (v := true) (by simp [opd, upd]) (fun _ => ?_) (fun q => by cases q)
    refine .seq (.block (.then xr17_18 (by simp [o17_18, builtinD, lenD, pD, argA]; rfl) ?_))
    refine .block (loop17c (d := d) (to := to) (lo := lo) (hi := hi) (c10 := c10) hv hlt ?_ a.ins _ ⟨Nat.le_refl _, ⟨rows, ?_⟩, ?_, ?_⟩)
    · rintro ⟨A2, h2⟩ ⟨_, ⟨rows2, g2⟩, e11, e12⟩
      simp only at e11
      show V E 17 144 r17_17 _ _
      refine .reg xr17_17 (by simp [o17_17, builtinD, lenD, pD, argA, e11]; rfl) ⟨by omega, ⟨rows2, ?_⟩, ?_⟩
      · exact g2.step (fun t ht => by simp [upd, show t ≠ 79 by omega, show t ≠ 80 by omega, show t ≠ 11 by omega]) (fun _ _ => rfl) (by simp)
      · simp [upd, hk', hwr]
    · exact g.step (fun t ht => by simp [upd, show t ≠ 12 by omega, show ∀ c, 76 ≤ c → ¬ t = c from fun c h => by omega]) (fun _ _ => rfl) (by simp; omega)
    · simp [upd, h11]
    · simp [upd]
  · rintro ⟨A, h⟩ ⟨le, ⟨rows, g⟩, h11⟩
    have h5 := g.f.h5
    simp only at h5 h11
    rw [cl17_1]
    refine .assoc (.then xr17_16 (by simp [o17_16, builtinD, lenD, pD, argA, h5, h11]; rfl) ?_)
    refine .head (v := false) (by simp [opd, upd]) (fun q => by cases q) (fun _ => hQ _ ⟨by omega, ⟨rows, ?_⟩, by simp [upd, h11]⟩)
    exact g.step (fun t ht => by simp [upd, show ∀ c, 76 ≤ c → ¬ t = c from fun c h => by omega]) (fun _ _ => rfl) (by simp)

/-- The drawn pair of machines. -/
def drawnD (st ins outs : Int) (p : Bool) (es : List Int) (st' ins' outs' : Int) (p' : Bool) (es' : List Int) (al : Bool) (s0 s1 p0 p1 to out : Int) : D :=
  .agg [.int .u8 st, .int .u8 ins, .int .u8 outs, .bool p, .frz (es.map (D.int .u16)) .unk, .int .u8 st', .int .u8 ins', .int .u8 outs', .bool p', .frz (es'.map (D.int .u16)) .unk, .bool al, .int .u8 s0, .int .u8 s1, .int .u8 p0, .int .u8 p1, .int .i64 to, .int .i64 out]

def Res17 (a : M) (st : St) : Prop := ∃ b : M, Valid b ∧ b.ins = a.ins ∧ st.A 2 = .ptr 1 0 0 ∧ st.A 3 = .ptr 2 0 0 ∧ st.h.blk 1 = .live 3 [encM a] ∧ ∃ v, st.h.blk 2 = .live 3 [.agg [.int .i64 b.ins, .int .i64 b.outs, v]] ∧ ∃ ks, snap true st.h.blk 7 v = some (.frz (b.rows.map rowD) .unk, ks)

/-- Behind the swap. -/
theorem tail17 {a : M} (hv : Valid a) {st ins outs st' ins' outs' : Int} {p p' al : Bool} {es es' : List Int} {s0 s1 p0 p1 t0 o0 : Int} (hp0 : 0 ≤ p0 ∧ p0 < 256) (hp1 : 0 ≤ p1 ∧ p1 < 256) {to : List Int} {s : St} (f : F17 a (drawnD st ins outs p es st' ins' outs' p' es' al s0 s1 p0 p1 t0 o0) to s.h.next s) (tl : to.length = a.rows.length) {Q : Po} (hq : ∀ s, Res17 a s → Q.r s) :
    V E 17 144 (r17_14.seq ((r17_15.seq (.block 2 (.loop l17_1))).seq (r17_25.seq (r17_26.seq ((r17_27.seq (.cond (.tmp 139) (r17_28.seq .ret) .skip)).seq (r17_29.seq .ret)))))) s Q := by
  have r1 := hv.r1
  have r2 := hv.r2
  have i1 := hv.i1
  have i2 := hv.i2
  have sh : Shape a := ⟨hv.i1, hv.i2, hv.o1, hv.o2, hv.r1, hv.r2, hv.len⟩
  obtain ⟨A, h⟩ := s
  obtain ⟨h1, h2, h3, h4, h5, b0, b1, b2, b6, ht, rg, hT, hn⟩ := id f
  simp only at h1 h2 h3 h4 h5 b0 b1 b2 b6 ht hT
  -- the copy
  obtain ⟨hc, w, c1, c2, c3, c4⟩ := call49 sh (w := .frz (a.rows.map rowD) .unk) (h := ⟨h.next + 4, h.blk⟩) (.inl rfl)
  simp only at c3 c4
  refine .then xr17_14 (by simp [o17_14, builtinD, lenD, pD, argA, h4, b6, encM, c1]; rfl) ?_
  have mw : ∃ b, w = .sl b 1 0 a.rows.length false := by
    rcases c2 with ⟨e, _⟩ | ⟨b, bs, _, e, _⟩
    · rw [e] at r1; simp at r1
    · exact ⟨b, e⟩
  obtain ⟨b, rfl⟩ := mw
  have m10 : ∀ j, ¬ h.next + 2 = hc.next + j := by omega
  refine .assoc (.then xr17_15 (by simp [o17_15, builtinD, lenD, pD, argA]; rfl) ?_)
  refine .seq (.block (loop17b (d := drawnD st ins outs p es st' ins' outs' p' es' al s0 s1 p0 p1 t0 o0) (to := to) (lo := h.next + 4) (hi := hc.next) (c10 := h.next + 2) hv ?_ a.rows.length _ ⟨Nat.le_refl _, ⟨a.rows, ?_, tl, ?_, ⟨b, ?_, ?_⟩, by omega, by omega, ?_, rfl, hv.len, hv.ok⟩, ?_⟩))
  · rintro ⟨A1, g1⟩ ⟨_, ⟨rows, g⟩, _⟩
    obtain ⟨f', _, h10, ⟨b', b10, m⟩, lh, hcl, cn, rl, rk, ok⟩ := g
    obtain ⟨e1, e2, e3, e4, e5, f0, ⟨z1, f1⟩, ⟨z2, f2⟩, f6, _, _, _, fn⟩ := id f'
    simp only at h10 b10 m cn e1 e2 e3 e4 e5 f0 f1 f2 f6 fn
    show V E 17 144 (r17_25.seq _) _ _
    have shb : Shape ⟨a.ins, a.outs, rows⟩ := ⟨hv.i1, hv.i2, hv.o1, hv.o2, by simp only; omega, by simp only; omega, rk⟩
    obtain ⟨hc2, w2, d1, d2, d3, d4⟩ := call49 shb (w := .sl b' 1 0 a.rows.length false) (h := ⟨g1.next + 4, g1.blk⟩) (.inr ⟨h.next + 4, m.nx _ (by simp only; omega)⟩)
    simp only at d1 d2 d3 d4
    refine .then xr17_25 (by simp [o17_25, builtinD, lenD, pD, argA, h10, b10, d1]; rfl) ?_
    rcases d2 with ⟨e, _⟩ | ⟨b2', bs, _, rfl, q2, q3, q4, q5, q6, q7, q8⟩
    · rw [e] at rl; simp at rl; omega
    have d2 : MatE hc2 (.sl b2' 1 0 rows.length false) rows a.ins (g1.next + 4) hc2.next := .inr ⟨b2', bs, (), rfl, q2, q3, q4, q5, q6, q7, q8⟩
    obtain ⟨i, hi⟩ : ∃ i : Nat, p0.tmod a.rows.length = (i : Int) := ⟨(p0.tmod a.rows.length).toNat, by rw [Int.toNat_of_nonneg (Int.tmod_nonneg _ hp0.1)]⟩
    obtain ⟨k, hk⟩ : ∃ k : Nat, p1.tmod a.ins = (k : Int) := ⟨(p1.tmod a.ins).toNat, by rw [Int.toNat_of_nonneg (Int.tmod_nonneg _ hp1.1)]⟩
    have hil : i < rows.length := by
      have := Int.tmod_lt_of_pos p0 (show (0 : Int) < a.rows.length by omega); omega
    have hkl : k < a.ins := by
      have := Int.tmod_lt_of_pos p1 (show (0 : Int) < a.ins by omega); omega
    have hw0 : IntKind.i64.wrap p0 = p0 := wrap_id (by omega) (by omega)
    have hw1 : IntKind.i64.wrap p1 = p1 := wrap_id (by omega) (by omega)
    have hz0 : ¬ (a.rows.length : Int) = 0 := by omega
    have hz1 : ¬ (a.ins : Int) = 0 := by omega
    have hz2 : ¬ a.rows = [] := fun e => by rw [e] at r1; simp at r1
    have hz3 : ¬ a.ins = 0 := by omega
    have hilI : (i : Int) < rows.length := by omega
    have hklI : (k : Int) < a.ins := by omega
    have hib : i < bs.length := by omega
    obtain ⟨w1, w2⟩ := q8 i bs[i] rows[i] (List.getElem?_eq_getElem hib) (List.getElem?_eq_getElem hil)
    obtain ⟨w3, w4, w5⟩ := q6 _ (List.getElem_mem hib)
    have hkr : k < rows[i].length := by omega
    have n0 : ¬ (0 : Nat) = g1.next + 2 := by omega
    have n1 : ¬ (6 : Nat) = g1.next + 2 := by omega
    have n2 : ¬ b2' = g1.next + 2 := by omega
    have n3 : ¬ bs[i] = g1.next + 2 := by omega
    have n4 : ¬ g1.next + 2 = bs[i] := by omega
    have k0 := (d4 0 (by omega)).trans f0
    have k6 := (d4 6 (by omega)).trans f6
    refine .then xr17_26 (by simp [o17_26, builtinD, lenD, pD, argA, e1, e4, e5, k0, k6, drawnD, encM, q2, hw0, hw1, hi, hk, hz0, hz1, hz2, hz3, hil, hilI, hib, rowE, hkl, hklI, hkr, w1, n0, n1, n2, n3]; rfl) ?_
    have hput : MatE ⟨hc2.next, upd hc2.blk bs[i] (.live 2 ((rows[i].map pD).set k (.agg [.int .i64 t0, .int .i64 o0])))⟩ (.sl b2' 1 0 rows.length false) (rows.set i (rows[i].set k (t0, o0))) a.ins (g1.next + 4) hc2.next := by
      refine d2.put q2 (List.getElem?_eq_getElem hib) hil (by simpa using w2) ?_ (fun x hx => upd_ne _ _ _ _ hx)
      simp [List.map_set, pD]
    have ok3 : ∀ r ∈ rows.set i (rows[i].set k (t0, o0)), r.length = a.ins := fun r hr => by
      rcases List.mem_or_eq_of_mem_set hr with hr | rfl
      · exact rk r hr
      · simpa using w2
    have sh3 : Shape ⟨a.ins, a.outs, rows.set i (rows[i].set k (t0, o0))⟩ := ⟨hv.i1, hv.i2, hv.o1, hv.o2, by simp only [List.length_set]; omega, by simp only [List.length_set]; omega, ok3⟩
    obtain ⟨r, hr, hrv⟩ := spec50 sh3
    have hnb : E.pol.args 50 = false := by decide
    have rest : ∀ (A2 : Nat → D) (g2 : H), A2 2 = .ptr 1 0 0 → A2 3 = .ptr 2 0 0 → A2 4 = .ptr 6 0 0 → A2 10 = .ptr (h.next + 2) 0 0 → A2 14 = .ptr (g1.next + 2) 0 0 → (∀ x, x < g1.next → g2.blk x = g1.blk x) → g2.blk (g1.next + 2) = .live 3 [.agg [.int .i64 a.ins, .int .i64 a.outs, .sl b2' 1 0 rows.length false]] → MatE g2 (.sl b2' 1 0 rows.length false) (rows.set i (rows[i].set k (t0, o0))) a.ins (g1.next + 4) hc2.next →
        V E 17 144 ((r17_27.seq (.cond (.tmp 139) (r17_28.seq .ret) .skip)).seq (r17_29.seq .ret)) ⟨A2, g2⟩ Q := by
      intro A2 g2 y2 y3 y4 y10 y14 yb yc ym
      obtain ⟨ks, tk, sn, stk⟩ := ym.snap (E.pol.args 50) 4
      have stk' : tk = .unk := stk (.inl hnb)
      subst stk'
      have c50 : callI E (.fn 50 []) [.agg [.int .i64 a.ins, .int .i64 a.outs, .sl b2' 1 0 rows.length false]] ⟨g2.next + 3, g2.blk⟩ = some (.int .i64 r, ⟨g2.next + 3, g2.blk⟩, if ks.isEmpty then {} else { rd := ks }) := by
        refine call_cap (cap := []) (xs := [encM ⟨a.ins, a.outs, rows.set i (rows[i].set k (t0, o0))⟩]) (by decide) ?_ hr (fun _ => rfl)
        have e1 : snap (E.pol.args 50) g2.blk 9 (.agg [.int .i64 a.ins, .int .i64 a.outs, .sl b2' 1 0 rows.length false]) = some (.agg [.int .i64 a.ins, .int .i64 a.outs, .frz ((rows.set i (rows[i].set k (t0, o0))).map rowD) .unk], ks) := by
          show (match mapK (snap (E.pol.args 50) g2.blk 8) [.int .i64 a.ins, .int .i64 a.outs, .sl b2' 1 0 rows.length false] with | some (ys, k) => some (D.agg ys, k) | none => none) = _
          simp only [mapK, sn]
          simp [snap_int]
        simp only [List.append_nil, mapK, snapDepth, e1]
        rfl
      have z6 := (yb 6 (by omega)).trans f6
      have z1' := (yb 1 (by omega)).trans f1
      have z2' := (yb 2 (by omega)).trans f2
      have z10 := (yb (h.next + 2) (by omega)).trans b10
      have p1 : ¬ g1.next + 2 = 1 := by omega
      have p2 : ¬ g1.next + 2 = 2 := by omega
      have p3 : ¬ h.next + 2 = 1 := by omega
      have p4 : ¬ h.next + 2 = 2 := by omega
      by_cases hr0 : r = 0
      · have hvc := hrv hr0
        refine .assoc (.then xr17_27 (by simp [o17_27, builtinD, lenD, pD, argA, y14, yc, c50, hr0]; rfl) ?_)
        refine .seq (.cond (v := true) (by simp [opd, upd]) (fun _ => ?_) (fun q => by cases q))
        refine .then xr17_28 (by simp [o17_28, builtinD, lenD, pD, argA, y2, y3, y4, y14, z6, z1', z2', yc, encM, p1, p2]; rfl) (.ret (hq _ ⟨_, hvc, rfl, ?_, ?_, ?_, .sl b2' 1 0 rows.length false, ?_, ?_⟩))
        · simp [upd, y2]
        · simp [upd, y3]
        · simp [upds, upd, encM]
        · simp [upds, upd]
        · obtain ⟨ks', tk', sn', stk'⟩ := (ym.frame (h' := ⟨g2.next + 3 + 1 + 4, upd (upd g2.blk 1 (.live 3 [encM a])) 2 (.live 3 [.agg [.int .i64 a.ins, .int .i64 a.outs, .sl b2' 1 0 rows.length false]])⟩) (fun x hx _ => by simp [upd, show ¬ x = 1 by omega, show ¬ x = 2 by omega])).snap true 3
          have : tk' = .unk := stk' (.inr (fun e => by have := congrArg List.length e; simp only [List.length_set, List.length_nil] at this; omega))
          subst this
          exact ⟨ks', by simpa [upds, encM] using sn'⟩
      · have hrb : (r == 0) = false := by simp [hr0]
        refine .assoc (.then xr17_27 (by simp [o17_27, builtinD, lenD, pD, argA, y14, yc, c50, hrb]; rfl) ?_)
        refine .seq (.cond (v := false) (by simp [opd, upd]) (fun q => by cases q) (fun _ => .skip ?_))
        have hvb : Valid ⟨a.ins, a.outs, rows⟩ := ⟨hv.i1, hv.i2, hv.o1, hv.o2, by simp only; omega, by simp only; omega, rk, fun r hr e he => by
          have := ok r hr e he
          unfold EdgeOk at *
          simpa [rl] using this⟩
        refine .then xr17_29 (by simp [o17_29, builtinD, lenD, pD, argA, y2, y3, y4, y10, z6, z1', z2', z10, encM, p3, p4]; rfl) (.ret (hq _ ⟨_, hvb, rfl, ?_, ?_, ?_, .sl b' 1 0 a.rows.length false, ?_, ?_⟩))
        · simp [upd, y2]
        · simp [upd, y3]
        · simp [upds, upd, encM]
        · simp [upds, upd]
        · have m2 : MatE g2 (.sl b' 1 0 a.rows.length false) rows a.ins (h.next + 4) hc.next := m.frame (fun x _ hx => yb x (by have : x < hc.next := hx; omega))
          obtain ⟨ks', tk', sn', stk'⟩ := (m2.frame (h' := ⟨g2.next + 3 + 4, upd (upd g2.blk 1 (.live 3 [encM a])) 2 (.live 3 [.agg [.int .i64 a.ins, .int .i64 a.outs, .sl b' 1 0 a.rows.length false]])⟩) (fun x hx _ => by simp [upd, show ¬ x = 1 by omega, show ¬ x = 2 by omega])).snap true 3
          have : tk' = .unk := stk' (.inr (fun e => by rw [e] at rl; simp at rl; omega))
          subst this
          exact ⟨ks', by simpa [upds, encM] using sn'⟩
    refine rest _ _ ?_ ?_ ?_ ?_ ?_ (fun x hx => ?_) ?_ ?_
    · simp [upd, e2]
    · simp [upd, e3]
    · simp [upd, e4]
    · simp [upd, h10]
    · simp [upd]
    · simp [upds, upd, show ¬ x = g1.next + 2 by omega, show ¬ x = bs[i] by omega, d4 x (by omega)]
    · simp [upds, upd, n4]
    · refine hput.frame (fun x hx _ => ?_)
      simp [upds, upd, show ¬ x = g1.next + 2 by omega]
  · refine f.step (fun t ht => by simp [upd, show t ≠ 74 by omega, show t ≠ 75 by omega, show t ≠ 10 by omega, show t ≠ 11 by omega]) (fun x hx => ?_) (by show h.next ≤ _; omega) (by simp; omega)
    have hx1 : x < h.next := hx
    have hx' := c4 x (by omega)
    simp [upds, upd, show ¬ x = h.next + 2 by omega, hx']
  · simp [upd]
  · simp [upds, upd]
  · refine (c2.frame (h' := _) (fun x hx _ => ?_))
    have hx2 : h.next + 4 ≤ x := hx
    simp [upds, upd, show ¬ x = h.next + 2 by omega]
  · simp
  · simp [upd]

theorem spec17 {st ins outs st' ins' outs' : Int} {p p' al : Bool} {es es' : List Int} {s0 s1 p0 p1 t0 o0 : Int} (h1 : 0 ≤ st ∧ st < 256) (h2 : 0 ≤ ins ∧ ins < 256) (h3 : 0 ≤ outs ∧ outs < 256) (he : ∀ e ∈ es, 0 ≤ e ∧ e < 65536)
    (h1' : 0 ≤ st' ∧ st' < 256) (h3' : 0 ≤ outs' ∧ outs' < 256) (he' : ∀ e ∈ es', 0 ≤ e ∧ e < 65536) (hs0 : 0 ≤ s0 ∧ s0 < 256) (hs1 : 0 ≤ s1 ∧ s1 < 256) (hp0 : 0 ≤ p0 ∧ p0 < 256) (hp1 : 0 ≤ p1 ∧ p1 < 256) :
    ∃ a b : M, Valid a ∧ Valid b ∧ a.ins = b.ins ∧ bodyR 17 [drawnD st ins outs p es st' ins' outs' p' es' al s0 s1 p0 p1 t0 o0] = some (.tup [encM a, encM b]) := by
  obtain ⟨a, va, ar, ai, ao, ab⟩ := spec48 (p := p) h1 h2 h3 he
  obtain ⟨x, vx, xr, xi, xo, xb⟩ := spec48 (p := p') h1' h2 h3' he'
  have r1 := va.r1
  have sn48 : ∀ (blk : Nat → Blk) (a b c : Int) (q : Bool) (l : List Int), snap (E.pol.args 48) blk snapDepth (drawnM a b c q l) = some (drawnM a b c q l, []) := fun blk a b c q l => by
    have e1 : snap (E.pol.args 48) blk (6 + 2) (.frz (l.map (D.int .u16)) .unk) = some (.frz (l.map (D.int .u16)) .unk, []) := by
      show (match mapK (snap false blk (6 + 1)) (l.map (D.int .u16)) with | some (ys, k) => some (D.frz ys _, k) | none => none) = _
      rw [mapK_map l fun x _ => rfl]
      rfl
    show (match mapK (snap (E.pol.args 48) blk (6 + 2)) [.int .u8 a, .int .u8 b, .int .u8 c, .bool q, .frz (l.map (D.int .u16)) .unk] with | some (ys, k) => some (D.agg ys, k) | none => none) = _
    simp only [mapK, e1]
    rfl
  have call48 : ∀ h, callI E (.fn 48 []) [.agg [.int .u8 st, .int .u8 ins, .int .u8 outs, .bool p, .frz (es.map (D.int .u16)) .unk]] h = some (.agg [.int .i64 a.ins, .int .i64 a.outs, .frz (a.rows.map rowD) .unk], h, {}) := fun h => call_pure (by decide) (snaps1 (sn48 _ _ _ _ _ _)) ab
  have call48' : ∀ h, callI E (.fn 48 []) [.agg [.int .u8 st', .int .u8 ins, .int .u8 outs', .bool p', .frz (es'.map (D.int .u16)) .unk]] h = some (.agg [.int .i64 x.ins, .int .i64 x.outs, .frz (x.rows.map rowD) .unk], h, {}) := fun h => call_pure (by decide) (snaps1 (sn48 _ _ _ _ _ _)) xb
  have key := body_V (P := fun v h => ∃ b : M, Valid b ∧ a.ins = b.ins ∧ (snap true h.blk snapDepth v).map (·.1) = some (.tup [encM a, encM b])) (run17 [drawnD st ins outs p es st' ins' outs' p' es' al s0 s1 p0 p1 t0 o0] H.empty (by simp)) (by
    have fin : ∀ s : St, Res17 a s → ∃ v, resultsD E [ResultVar.cell 2 34, ResultVar.cell 3 34] s = some v ∧ ∃ b : M, Valid b ∧ a.ins = b.ins ∧ (snap true s.h.blk snapDepth v).map (·.1) = some (.tup [encM a, encM b]) := by
      rintro s ⟨b, vb, hi, e2, e3, f1, v, f2, ks, fs⟩
      refine ⟨.tup [encM a, .agg [.int .i64 b.ins, .int .i64 b.outs, v]], ?_, b, vb, hi.symm, ?_⟩
      · simp [resultsD, mapO, resultD, e2, e3, loadD, f1, f2, partD, encM]
      · have e1 : snap true s.h.blk 8 (.agg [.int .i64 b.ins, .int .i64 b.outs, v]) = some (encM b, ks) := by
          show (match mapK (snap true s.h.blk 7) [.int .i64 b.ins, .int .i64 b.outs, v] with | some (ys, k) => some (D.agg ys, k) | none => none) = _
          simp only [mapK, fs]
          simp [snap_int, encM]
        show Option.map _ (match mapK (snap true s.h.blk 8) [encM a, .agg [.int .i64 b.ins, .int .i64 b.outs, v]] with | some (ys, k) => some (D.tup ys, k) | none => none) = _
        simp only [mapK, snap_encM, e1]
        rfl
    unfold b17
    refine .then xr17_0 (by simp [o17_0, builtinD, lenD, pD, argA, drawnD]; rfl) ?_
    refine .then xr17_1 (by simp [o17_1, builtinD, lenD, pD, argA, call48]; rfl) ?_
    refine .then xr17_2 (by simp [o17_2, builtinD, lenD, pD, argA]; rfl) ?_
    refine .assoc (.then xr17_3 (by simp [o17_3, builtinD, lenD, pD, argA]; rfl) ?_)
    cases al with
    | false =>
      refine .seq (.cond (v := true) (by simp [opd, upd]) (fun _ => ?_) (fun q => by cases q))
      refine .then xr17_4 (by simp [o17_4, builtinD, lenD, pD, argA]; rfl) ?_
      refine .then xr17_5 (by simp [o17_5, builtinD, lenD, pD, argA, call48']; rfl) (.ret (fin _ ⟨x, vx, by omega, ?_, ?_, ?_, .frz (x.rows.map rowD) .unk, ?_, [], ?_⟩))
      · simp [upd]
      · simp [upd]
      · simp [upds, upd, encM]
      · simp [upds, upd]
      · rw [show (7 : Nat) = 3 + 4 from rfl, snap_rows]
    | true =>
      refine .seq (.cond (v := false) (by simp [opd, upd]) (fun q => by cases q) (fun _ => .skip ?_))
      refine .then xr17_6 (by simp [o17_6, builtinD, lenD, pD, argA]; rfl) ?_
      refine .assoc (.then xr17_7 (by simp [o17_7, builtinD, lenD, pD, argA]; rfl) ?_)
      refine .seq (.block (loop17a (d := drawnD st ins outs p es st' ins' outs' p' es' true s0 s1 p0 p1 t0 o0) va ?_ a.rows.length _ ⟨Nat.le_refl _, ⟨[], ⟨?_, ?_, ?_, ?_, ?_, ?_, ⟨.frz [] .nil, ?_⟩, ⟨.frz [] .nil, ?_⟩, ?_, .inl ⟨rfl, ?_⟩, (fun x hx => by cases hx), ?_, Nat.le_refl _⟩, by simp⟩, ?_⟩))
      · rintro ⟨A, h⟩ ⟨_, ⟨to, f, hl⟩, h7⟩
        rw [Nat.sub_zero] at hl
        show V E 17 144 _ _ _
        obtain ⟨e1, e2, e3, e4, e5, f0, f1, f2, f6, ht, rg, hT, hn⟩ := id f
        simp only at e1 e2 e3 e4 e5 f0 f1 f2 f6 ht hT
        refine .assoc (.then xr17_11 (by simp [o17_11, builtinD, lenD, pD, argA, e5]; rfl) ?_)
        by_cases c1 : 1 < a.rows.length
        · have c1I : (1 : Int) < a.rows.length := by omega
          refine .seq (.cond (v := true) (by simp [opd, upd]; omega) (fun _ => ?_) (fun q => by cases q))
          have hsub : IntKind.i64.wrap ((a.rows.length : Int) - 1) = (a.rows.length : Int) - 1 := wrap_id (by omega) (by omega)
          have hw0 : IntKind.i64.wrap s0 = s0 := wrap_id (by omega) (by omega)
          have hw1 : IntKind.i64.wrap s1 = s1 := wrap_id (by omega) (by omega)
          have m0 := Int.tmod_nonneg ((a.rows.length : Int) - 1) hs0.1
          have m1 := Int.tmod_nonneg ((a.rows.length : Int) - 1) hs1.1
          have l0 := Int.tmod_lt_of_pos s0 (show (0 : Int) < (a.rows.length : Int) - 1 by omega)
          have l1 := Int.tmod_lt_of_pos s1 (show (0 : Int) < (a.rows.length : Int) - 1 by omega)
          obtain ⟨i, hi⟩ : ∃ i : Nat, 1 + s0.tmod ((a.rows.length : Int) - 1) = (i : Int) := ⟨(1 + s0.tmod ((a.rows.length : Int) - 1)).toNat, by omega⟩
          obtain ⟨k, hk⟩ : ∃ k : Nat, 1 + s1.tmod ((a.rows.length : Int) - 1) = (k : Int) := ⟨(1 + s1.tmod ((a.rows.length : Int) - 1)).toNat, by omega⟩
          have hwi : IntKind.i64.wrap (i : Int) = i := wrap_id (by omega) (by omega)
          have hwk : IntKind.i64.wrap (k : Int) = k := wrap_id (by omega) (by omega)
          have hz : ¬ (a.rows.length : Int) - 1 = 0 := by omega
          have hil : i < to.length := by omega
          have hkl : k < to.length := by omega
          have hilI : (i : Int) < to.length := by omega
          have hklI : (k : Int) < to.length := by omega
          refine .then xr17_12 (by simp [o17_12, builtinD, lenD, pD, argA, e1, e5, f0, drawnD, hsub, hw0, hw1, hz, hi, hk, hwi, hwk]; rfl) ?_
          rcases ht with ⟨e0, _⟩ | ⟨tb, ex, e6, g2, g3, g4⟩
          · rw [e0] at hil; simp at hil
          have rest : ∀ (A2 : Nat → D) (h2 : H), (∀ t, t < 7 → A2 t = A t) → A2 8 = .int .i64 i → A2 9 = .int .i64 k → (∀ x, x < h.next → h2.blk x = h.blk x) → h.next ≤ h2.next → V E 17 144 r17_13 ⟨A2, h2⟩ (Po.upto ⟨fun s => ∃ v, resultsD E [ResultVar.cell 2 34, ResultVar.cell 3 34] s = some v ∧ ∃ b : M, Valid b ∧ a.ins = b.ins ∧ (snap true s.h.blk snapDepth v).map (·.1) = some (.tup [encM a, encM b]), fun s => ∃ v, resultsD E [ResultVar.cell 2 34, ResultVar.cell 3 34] s = some v ∧ ∃ b : M, Valid b ∧ a.ins = b.ins ∧ (snap true s.h.blk snapDepth v).map (·.1) = some (.tup [encM a, encM b]), fun _ _ => False, fun _ _ => False⟩ (fun s' => V E 17 144 (r17_14.seq ((r17_15.seq (.block 2 (.loop l17_1))).seq (r17_25.seq (r17_26.seq ((r17_27.seq (.cond (.tmp 139) (r17_28.seq .ret) .skip)).seq (r17_29.seq .ret)))))) s' ⟨fun s => ∃ v, resultsD E [ResultVar.cell 2 34, ResultVar.cell 3 34] s = some v ∧ ∃ b : M, Valid b ∧ a.ins = b.ins ∧ (snap true s.h.blk snapDepth v).map (·.1) = some (.tup [encM a, encM b]), fun s => ∃ v, resultsD E [ResultVar.cell 2 34, ResultVar.cell 3 34] s = some v ∧ ∃ b : M, Valid b ∧ a.ins = b.ins ∧ (snap true s.h.blk snapDepth v).map (·.1) = some (.tup [encM a, encM b]), fun _ _ => False, fun _ _ => False⟩)) := by
            intro A2 h2' eA e8 e9 eb hnx
            have k6 := (eA 6 (by omega)).trans e6
            have kb := (eb tb (by omega)).trans g2
            have hcel : ∀ hh : k < ((List.map (D.int .i64) to).set i (.int .i64 to[k])).length, (((List.map (D.int .i64) to).set i (.int .i64 to[k]))[k]'hh).cells.length = 1 := by intro hh; rw [List.getElem_set]; split <;> simp
            refine .reg xr17_13 (by simp [o17_13, builtinD, lenD, pD, argA, k6, kb, e8, e9, hil, hkl, hilI, hklI, hcel]; rfl) ?_
            have f2' := f.step (A' := A2) (h' := h2') eA eb (Nat.le_refl _) hnx
            obtain ⟨q1, q2, q3, q4, q5, r0, ⟨z1, r1'⟩, ⟨z2, r2'⟩, r6, m, rg', hT', hn'⟩ := f2'
            simp only at q1 q2 q3 q4 q5 r0 r1' r2' r6 hn'
            have u0 : ¬ (0 : Nat) = tb := by omega
            have u1 : ¬ (1 : Nat) = tb := by omega
            have u2 : ¬ (2 : Nat) = tb := by omega
            have u6 : ¬ (6 : Nat) = tb := by omega
            refine tail17 va (st := st) (ins := ins) (outs := outs) (st' := st') (ins' := ins') (outs' := outs') (p := p) (p' := p') (al := true) (es := es) (es' := es') (s0 := s0) (s1 := s1) (t0 := t0) (o0 := o0) hp0 hp1 (to := (to.set i to[k]).set k to[i]) ⟨?_, ?_, ?_, ?_, ?_, ?_, ⟨z1, ?_⟩, ⟨z2, ?_⟩, ?_, .inr ⟨tb, ex, ?_, ?_, g3, ?_⟩, ?_, ?_, Nat.le_refl _⟩ (by simpa using hl) (fun s hs => ?_)
            rotate_right
            · exact fin s hs
            · simp [upd, q1]
            · simp [upd, q2]
            · simp [upd, q3]
            · simp [upd, q4]
            · simp [upd, q5]
            · simp [upds, upd, u0, r0]
            · simp [upds, upd, u1, r1']
            · simp [upds, upd, u2, r2']
            · simp [upds, upd, u6, r6]
            · simp [upd, k6]
            · simp [upds, upd, List.map_set]
            · simp; omega
            · intro x hx
              rcases List.mem_or_eq_of_mem_set hx with hx | rfl
              · rcases List.mem_or_eq_of_mem_set hx with hx | rfl
                · exact rg x hx
                · exact rg _ (List.getElem_mem hkl)
              · exact rg _ (List.getElem_mem hil)
            · simp
          refine rest _ _ (fun t ht => ?_) (by simp [upd]) (by simp [upd]) (fun x hx => rfl) (by simp; omega)
          simp [upd, show t ≠ 8 by omega, show t ≠ 9 by omega, show ∀ c, 42 ≤ c → ¬ t = c from fun c h => by omega]
        · refine .seq (.cond (v := false) (by simp [opd, upd]; omega) (fun q => by cases q) (fun _ => .skip ?_))
          show V E 17 144 (r17_14.seq _) _ _
          refine tail17 va (st := st) (ins := ins) (outs := outs) (st' := st') (ins' := ins') (outs' := outs') (p := p) (p' := p') (al := true) (es := es) (es' := es') (s0 := s0) (s1 := s1) (t0 := t0) (o0 := o0) hp0 hp1 (to := to) ?_ hl (fun s hs => ?_)
          · exact f.step (fun t ht => by simp [upd, show t ≠ 42 by omega, show t ≠ 43 by omega]) (fun _ _ => rfl) (by simp) (Nat.le_refl _)
          · exact fin s hs
      · simp [upd]
      · simp [upd]
      · simp [upd]
      · simp [upd]
      · simp [upd]
      · simp [upds, upd, drawnD]
      · simp [upds, upd]
      · simp [upds, upd]
      · simp [upds, upd, encM]
      · simp [upd]
      · simp
      · simp [upd])
  obtain ⟨v, h', e, b, vb, hi, hs⟩ := key
  refine ⟨a, b, va, vb, hi, ?_⟩
  unfold bodyR
  rw [e]
  exact hs
end Go.Eng.E3

namespace Go.Eng.E3
open Go Go.Eng Go.Proofs
set_option maxRecDepth 100000
attribute [local simp] execR runOps stepOp wantedD evalOp opd upd St.put Eff.apply upds looseOk FP.free FP.idle apart Eff.fp ofVal loadD storeD partD setPart indexAddrD isShift arith unD callOp mapO D.okc pickD buildable buildD placeD convD
set_option linter.unusedSimpArgs false
set_option maxHeartbeats 4000000

@[simp] theorem binNe55 (a b c d : Int) : binD E.T .neq 55 (.agg [.int .i64 a, .int .i64 b]) (.agg [.int .i64 c, .int .i64 d]) = some (.bool (!decide (a = c ∧ b = d))) := by
  simp only [binD, eqD55, Option.map_some]

structure F16 (a b : M) (k : Nat) (st : St) : Prop where
  h2 : st.A 2 = .ptr 0 0 0
  h3 : st.A 3 = .ptr 1 0 0
  h5 : st.A 5 = .int .i64 k
  ha : st.h.blk 0 = .live 3 [encM a]
  hb : st.h.blk 1 = .live 3 [encM b]

structure J16 (a b : M) (s : Nat) (j : Nat) (st : St) : Prop where
  le : j ≤ (a.rows.getD s []).length
  f : F16 a b s st
  h6 : st.A 6 = .int .i64 (((a.rows.getD s []).length - j : Nat) : Int)
  eq : (a.rows.getD s []).take ((a.rows.getD s []).length - j) = (b.rows.getD s []).take ((a.rows.getD s []).length - j)

theorem loop16b {a b : M} {s : Nat} (hs : s < a.rows.length) (hs' : s < b.rows.length) (hl : a.rows[s].length = b.rows[s].length) (hL : a.rows[s].length < 2 ^ 62) {Q : Po} (hQ : ∀ st, F16 a b s st → a.rows[s] = b.rows[s] → Q.x 2 st) (hr : ∀ st, st.A 4 = .bool false → a.rows[s] ≠ b.rows[s] → Q.r st) (j : Nat) (st : St) (hI : J16 a b s j st) :
    V E 16 75 (.loop l16_1) st Q := by
  have ga : a.rows.getD s [] = a.rows[s] := by simp [hs]
  have gb : b.rows.getD s [] = b.rows[s] := by simp [hs']
  refine V.count (J16 a b s) ?_ ?_ j st hI
  · rintro j ⟨A, h⟩ ⟨le, ⟨h2, h3, h5, ha, hb⟩, h6, eq⟩
    rw [ga, gb] at eq
    rw [ga] at le h6
    have hlt : a.rows[s].length - (j + 1) < a.rows[s].length := by omega
    generalize hi : a.rows[s].length - (j + 1) = i at *
    have hk' : a.rows[s].length - j = i + 1 := by omega
    have hlt' : i < b.rows[s].length := by omega
    have hwr : IntKind.i64.wrap ((i : Int) + 1) = ((i + 1 : Nat) : Int) := by rw [wrap_id] <;> omega
    simp only at h2 h3 h5 h6 ha hb
    rw [cl16_1]
    refine .assoc (.then xr16_9 (by simp [o16_9, builtinD, lenD, pD, argA, h2, h5, h6, ha, encM, hs, rowD]; rfl) ?_)
    refine .head (v := decide (i < a.rows[s].length)) (by simp [opd, upd]) (fun _ => ?_) (fun hf => by simp [hlt] at hf)
    refine .seq (.block (.then xr16_11 (by simp [o16_11, builtinD, lenD, pD, argA, h2, h3, h5, h6, ha, hb, encM, hs, hs', hlt, hlt', rowD]; rfl) ?_))
    refine .cond (v := !decide (a.rows[s][i] = b.rows[s][i])) (by simp [opd, upd, Prod.ext_iff]) (fun q => ?_) (fun q => .skip ?_)
    · have hne : a.rows[s][i] ≠ b.rows[s][i] := by simpa using q
      exact .then xr16_12 (by simp [o16_12, builtinD, lenD, pD, argA]; rfl) (.ret (hr _ (by simp [upd]) (fun e => hne (by simp [e]))))
    · have he : a.rows[s][i] = b.rows[s][i] := by simpa using q
      refine .reg xr16_10 (by simp [o16_10, builtinD, lenD, pD, argA, h6]; rfl) ⟨by rw [ga]; omega, ⟨?_, ?_, ?_, ?_, ?_⟩, ?_, ?_⟩
      · simp [upd, h2]
      · simp [upd, h3]
      · simp [upd, h5]
      · simpa [upds] using ha
      · simpa [upds] using hb
      · rw [ga, hk']; simp [upd, hwr]
      · rw [ga, gb, hk', List.take_succ_eq_append_getElem hlt, List.take_succ_eq_append_getElem hlt', eq, he]
  · rintro ⟨A, h⟩ ⟨le, ⟨h2, h3, h5, ha, hb⟩, h6, eq⟩
    rw [ga, gb] at eq
    rw [ga] at h6
    simp only at h2 h3 h5 h6 ha hb
    rw [cl16_1]
    refine .assoc (.then xr16_9 (by simp [o16_9, builtinD, lenD, pD, argA, h2, h5, h6, ha, encM, hs, rowD]; rfl) ?_)
    refine .head (v := false) (by simp [opd, upd]) (fun hf => by cases hf) (fun _ => hQ _ ⟨?_, ?_, ?_, ?_, ?_⟩ ?_)
    · simp [upd, h2]
    · simp [upd, h3]
    · simp [upd, h5]
    · simpa [upds] using ha
    · simpa [upds] using hb
    · have h1 : a.rows[s].take (a.rows[s].length - 0) = a.rows[s] := by simp
      have h2 : b.rows[s].take (a.rows[s].length - 0) = b.rows[s] := by rw [Nat.sub_zero, hl]; simp
      rw [h1, h2] at eq; exact eq

structure I16 (a b : M) (k : Nat) (st : St) : Prop where
  le : k ≤ a.rows.length
  f : F16 a b (a.rows.length - k) st
  eq : a.rows.take (a.rows.length - k) = b.rows.take (a.rows.length - k)

theorem spec16 {a b : M} (hL : a.rows.length < 2 ^ 62) (hR : ∀ r ∈ a.rows, r.length < 2 ^ 62) : bodyR 16 [encM a, encM b] = some (.bool (decide (a.ins = b.ins ∧ a.outs = b.outs ∧ a.rows = b.rows))) := by
  have key : V E 16 75 b16 ⟨argA [encM a, encM b], H.empty⟩ ⟨fun _ => False, fun s => s.A 4 = .bool (decide (a.ins = b.ins ∧ a.outs = b.outs ∧ a.rows = b.rows)), fun _ _ => False, fun _ _ => False⟩ := by
    have fin : ∀ (st : St) (v : Bool), st.A 4 = .bool v → v = decide (a.ins = b.ins ∧ a.outs = b.outs ∧ a.rows = b.rows) → st.A 4 = .bool (decide (a.ins = b.ins ∧ a.outs = b.outs ∧ a.rows = b.rows)) := fun st v h e => by rw [h, e]
    unfold b16
    refine .then xr16_0 (by simp [o16_0, builtinD, lenD, pD, argA, encM]; rfl) ?_
    by_cases c1 : a.ins = b.ins
    · by_cases c2 : a.outs = b.outs
      · by_cases c3 : a.rows.length = b.rows.length
        · refine .assoc (.then xr16_1 (by simp [o16_1, builtinD, lenD, pD, argA, c1, c2, c3]; rfl) ?_)
          refine .seq (.cond (v := false) (by simp [opd, upd]) (fun q => by cases q) (fun _ => .skip ?_))
          refine .assoc (.then xr16_3 (by simp [o16_3, builtinD, lenD, pD, argA]; rfl) ?_)
          refine .seq (.block (V.count (I16 a b) ?_ ?_ a.rows.length _ ⟨Nat.le_refl _, ⟨?_, ?_, ?_, ?_, ?_⟩, by simp⟩))
          · rintro k ⟨A, h⟩ ⟨le, ⟨h2, h3, h5, ha, hb⟩, eq⟩
            have hlt : a.rows.length - (k + 1) < a.rows.length := by omega
            generalize hi : a.rows.length - (k + 1) = s at *
            have hk' : a.rows.length - k = s + 1 := by omega
            have hlt' : s < b.rows.length := by omega
            have hwr : IntKind.i64.wrap ((s : Int) + 1) = ((s + 1 : Nat) : Int) := by rw [wrap_id] <;> omega
            simp only at h2 h3 h5 ha hb
            have hrl := hR _ (List.getElem_mem hlt)
            rw [cl16_0]
            refine .assoc (.then xr16_4 (by simp [o16_4, builtinD, lenD, pD, argA, h2, h5, ha, encM]; rfl) ?_)
            refine .head (v := decide (s < a.rows.length)) (by simp [opd, upd]) (fun _ => ?_) (fun hf => by simp [hlt] at hf)
            refine .seq (.block (.assoc (.then xr16_6 (by simp [o16_6, builtinD, lenD, pD, argA, h2, h3, h5, ha, hb, encM, hlt, hlt', rowD]; rfl) ?_)))
            by_cases c4 : a.rows[s].length = b.rows[s].length
            · refine .seq (.cond (v := false) (by simp [opd, upd, c4]) (fun q => by cases q) (fun _ => .skip ?_))
              refine .then xr16_8 (by simp [o16_8, builtinD, lenD, pD, argA]; rfl) ?_
              refine .block (loop16b hlt hlt' c4 hrl ?_ ?_ a.rows[s].length _ ⟨by simp [hlt], ⟨?_, ?_, ?_, ?_, ?_⟩, ?_, ?_⟩)
              · rintro ⟨A1, h1⟩ ⟨g2, g3, g5, ga, gb⟩ he
                simp only at g2 g3 g5 ga gb
                show V E 16 75 r16_5 _ _
                refine .reg xr16_5 (by simp [o16_5, builtinD, lenD, pD, argA, g5]; rfl) ⟨by omega, ⟨?_, ?_, ?_, ?_, ?_⟩, ?_⟩
                · simp [upd, g2]
                · simp [upd, g3]
                · rw [hk']; simp [upd, hwr]
                · simpa [upds] using ga
                · simpa [upds] using gb
                · rw [hk', List.take_succ_eq_append_getElem hlt, List.take_succ_eq_append_getElem hlt', eq, he]
              · intro st h4 hne
                show st.A 4 = _
                rw [h4]
                have : ¬ a.rows = b.rows := fun e => hne (by simp [e])
                simp [this]
              · simp [upd, h2]
              · simp [upd, h3]
              · simp [upd, h5]
              · simpa [upds] using ha
              · simpa [upds] using hb
              · simp [upd, hlt]
              · simp [hlt]
            · refine .seq (.cond (v := true) (by simp [opd, upd]; omega) (fun _ => ?_) (fun q => by cases q))
              have : ¬ a.rows = b.rows := fun e => c4 (by simp [e])
              exact .then xr16_7 (by simp [o16_7, builtinD, lenD, pD, argA]; rfl) (.ret (fin _ false (by simp [upd]) (by simp [this])))
          · rintro ⟨A, h⟩ ⟨le, ⟨h2, h3, h5, ha, hb⟩, eq⟩
            simp only at h2 h3 h5 ha hb
            rw [cl16_0]
            refine .assoc (.then xr16_4 (by simp [o16_4, builtinD, lenD, pD, argA, h2, h5, ha, encM]; rfl) ?_)
            refine .head (v := false) (by simp [opd, upd]) (fun hf => by cases hf) (fun _ => ?_)
            have he : a.rows = b.rows := by
              have h1 : a.rows.take (a.rows.length - 0) = a.rows := by simp
              have h2 : b.rows.take (a.rows.length - 0) = b.rows := by rw [Nat.sub_zero, c3]; simp
              rw [h1, h2] at eq; exact eq
            exact .then xr16_13 (by simp [o16_13, builtinD, lenD, pD, argA]; rfl) (.ret (fin _ true (by simp [upd]) (by simp [c1, c2, he])))
          · simp [upd]
          · simp [upd]
          · simp [upd]
          · simp [upd, upds, encM, c1, c2]
          · simp [upd, upds, encM]
        · have c3b : ((a.rows.length : Int) != (b.rows.length : Int)) = true := by simp; omega
          have : ¬ a.rows = b.rows := fun e => c3 (by rw [e])
          refine .assoc (.then xr16_1 (by simp [o16_1, builtinD, lenD, pD, argA, c1, c2, c3b]; rfl) ?_)
          refine .seq (.cond (v := true) (by simp [opd, upd]) (fun _ => ?_) (fun q => by cases q))
          exact .then xr16_2 (by simp [o16_2, builtinD, lenD, pD, argA]; rfl) (.ret (fin _ false (by simp [upd]) (by simp [this])))
      · have c2b : ((a.outs : Int) != (b.outs : Int)) = true := by simp; omega
        refine .assoc (.then xr16_1 (by simp [o16_1, builtinD, lenD, pD, argA, c1, c2b]; rfl) ?_)
        refine .seq (.cond (v := true) (by simp [opd, upd]) (fun _ => ?_) (fun q => by cases q))
        exact .then xr16_2 (by simp [o16_2, builtinD, lenD, pD, argA]; rfl) (.ret (fin _ false (by simp [upd]) (by simp [c2])))
    · have c1b : ((a.ins : Int) != (b.ins : Int)) = true := by simp; omega
      refine .assoc (.then xr16_1 (by simp [o16_1, builtinD, lenD, pD, argA, c1b]; rfl) ?_)
      refine .seq (.cond (v := true) (by simp [opd, upd]) (fun _ => ?_) (fun q => by cases q))
      exact .then xr16_2 (by simp [o16_2, builtinD, lenD, pD, argA]; rfl) (.ret (fin _ false (by simp [upd]) (by simp [c1])))
  obtain ⟨x, s', h1, h2⟩ := key
  cases x with
  | normal => exact h2.elim
  | exit i => exact h2.elim
  | goto l => exact h2.elim
  | ret =>
    have h4 : s'.A 4 = .bool (decide (a.ins = b.ins ∧ a.outs = b.outs ∧ a.rows = b.rows)) := h2
    refine bodyR_V (run16 _ _ (by simp)) ⟨_, _, h1, ⟨_, by simp [resultsD, mapO, resultD, h4]; rfl, by simp [snap, snapDepth]⟩⟩
end Go.Eng.E3

namespace Go.Eng.E3
open Go Go.Eng Go.Proofs
set_option maxRecDepth 100000
attribute [local simp] execR runOps stepOp wantedD evalOp opd upd St.put Eff.apply upds looseOk FP.free FP.idle apart Eff.fp ofVal loadD storeD partD setPart indexAddrD isShift arith unD callOp mapO D.okc pickD buildable buildD placeD convD
set_option linter.unusedSimpArgs false
set_option maxHeartbeats 2000000

structure I53 (a b : List Int) (k : Nat) (st : St) : Prop where
  le : k ≤ a.length
  h0 : st.A 0 = .frz (a.map (D.int .i64)) .unk
  h1 : st.A 1 = .frz (b.map (D.int .i64)) .unk
  h5 : st.A 5 = .int .i64 ((a.length - k : Nat) : Int)
  eq : a.take (a.length - k) = b.take (a.length - k)

theorem spec53 {a b : List Int} (hL : a.length < 2 ^ 62) : ∃ c : Int, bodyR 53 [.frz (a.map (D.int .i64)) .unk, .frz (b.map (D.int .i64)) .unk] = some (.int .i64 c) ∧ (c = 0 ↔ a = b) := by
  rcases Nat.lt_trichotomy a.length b.length with hl | hl | hl
  · refine ⟨-1, ?_, by constructor <;> intro h; · cases h
                       · subst h; omega⟩
    refine bodyR_V (run53 _ _ (by simp)) ?_
    unfold b53
    refine .then xr53_0 (by simp [o53_0, builtinD, lenD, pD, argA]; rfl) ?_
    refine .assoc (.then xr53_1 (by simp [o53_1, builtinD, lenD, pD, argA, hl]; rfl) ?_)
    refine .seq (.cond (by simp [opd, upd]; rfl) (fun _ => ?_) (fun hf => by cases hf))
    exact .then xr53_2 (by simp [o53_2, builtinD, lenD, pD, argA]; rfl) (.ret ⟨_, by simp [resultsD, mapO, resultD, upd]; rfl, by simp [snap, snapDepth]⟩)
  · -- as long
    by_cases hab : a = b
    · refine ⟨0, ?_, by simp [hab]⟩
      subst hab
      refine bodyR_V (run53 _ _ (by simp)) ?_
      unfold b53
      refine .then xr53_0 (by simp [o53_0, builtinD, lenD, pD, argA]; rfl) ?_
      refine .assoc (.then xr53_1 (by simp [o53_1, builtinD, lenD, pD, argA]; rfl) ?_)
      refine .seq (.cond (by simp [opd, upd]; rfl) (fun hf => by cases hf) (fun _ => .skip ?_))
      refine .assoc (.then xr53_3 (by simp [o53_3, builtinD, lenD, pD, argA]; rfl) ?_)
      refine .seq (.cond (by simp [opd, upd]; rfl) (fun hf => by cases hf) (fun _ => .skip ?_))
      refine .assoc (.then xr53_5 (by simp [o53_5, builtinD, lenD, pD, argA]; rfl) ?_)
      refine .seq (.block (V.count (I53 a a) ?_ ?_ a.length _ ⟨Nat.le_refl _, by simp [upd, argA], by simp [upd, argA], by simp [upd], rfl⟩))
      · rintro k ⟨A, h⟩ ⟨le, h0, h1, h5, eq⟩
        have hlt : a.length - (k + 1) < a.length := by omega
        generalize hi : a.length - (k + 1) = i at *
        have hk' : a.length - k = i + 1 := by omega
        have hw : IntKind.i64.wrap ((i : Int) + 1) = ((i + 1 : Nat) : Int) := by rw [wrap_id] <;> omega
        simp only at h0 h1 h5
        rw [cl53_0]
        refine .assoc (.then xr53_6 (by simp [o53_6, builtinD, lenD, pD, argA, h0, h5]; rfl) ?_)
        refine .head (by simp [opd, upd]; rfl) (fun _ => ?_) (fun hf => by simp [hlt] at hf)
        refine .seq (.block ?_)
        refine .assoc (.then xr53_8 (by simp [o53_8, builtinD, lenD, pD, argA, h0, h1, h5, hlt]; rfl) ?_)
        refine .seq (.cond (by simp [opd, upd]; rfl) (fun hf => by cases hf) (fun _ => .skip ?_))
        refine .then xr53_10 (by simp [o53_10, builtinD, lenD, pD, argA, h0, h1, h5, hlt]; rfl) ?_
        refine .cond (by simp [opd, upd]; rfl) (fun hf => by cases hf) (fun _ => .skip ?_)
        refine .reg xr53_7 (by simp [o53_7, builtinD, lenD, pD, argA, h5]; rfl) ⟨by omega, ?_, ?_, ?_, rfl⟩
        · simp [upd, h0]
        · simp [upd, h1]
        · simp [upd, hk', hw]
      · rintro ⟨A, h⟩ ⟨le, h0, h1, h5, eq⟩
        simp only at h0 h1 h5
        rw [cl53_0]
        refine .assoc (.then xr53_6 (by simp [o53_6, builtinD, lenD, pD, argA, h0, h5]; rfl) ?_)
        refine .head (by simp [opd, upd]; rfl) (fun hf => by simp at hf) (fun _ => ?_)
        exact .then xr53_12 (by simp [o53_12, builtinD, lenD, pD, argA]; rfl) (.ret ⟨_, by simp [resultsD, mapO, resultD, upd]; rfl, by simp [snap, snapDepth]⟩)
    · have key : ∃ c : Int, c ≠ 0 ∧ bodyR 53 [.frz (a.map (D.int .i64)) .unk, .frz (b.map (D.int .i64)) .unk] = some (.int .i64 c) := by
        have hV : V E 53 40 b53 ⟨argA [.frz (a.map (D.int .i64)) .unk, .frz (b.map (D.int .i64)) .unk], H.empty⟩ ⟨fun _ => False, fun s => ∃ c : Int, c ≠ 0 ∧ s.A 4 = .int .i64 c, fun _ _ => False, fun _ _ => False⟩ := by
          unfold b53
          refine .then xr53_0 (by simp [o53_0, builtinD, lenD, pD, argA]; rfl) ?_
          refine .assoc (.then xr53_1 (by simp [o53_1, builtinD, lenD, pD, argA, hl]; rfl) ?_)
          refine .seq (.cond (by simp [opd, upd]; rfl) (fun hf => by cases hf) (fun _ => .skip ?_))
          refine .assoc (.then xr53_3 (by simp [o53_3, builtinD, lenD, pD, argA, hl]; rfl) ?_)
          refine .seq (.cond (by simp [opd, upd]; rfl) (fun hf => by cases hf) (fun _ => .skip ?_))
          refine .assoc (.then xr53_5 (by simp [o53_5, builtinD, lenD, pD, argA]; rfl) ?_)
          refine .seq (.block (V.count (I53 a b) ?_ ?_ a.length _ ⟨Nat.le_refl _, by simp [upd, argA], by simp [upd, argA], by simp [upd], by simp⟩))
          · rintro k ⟨A, h⟩ ⟨le, h0, h1, h5, eq⟩
            have hlt : a.length - (k + 1) < a.length := by omega
            generalize hi : a.length - (k + 1) = i at *
            have hk' : a.length - k = i + 1 := by omega
            have hlt' : i < b.length := by omega
            have hw : IntKind.i64.wrap ((i : Int) + 1) = ((i + 1 : Nat) : Int) := by rw [wrap_id] <;> omega
            simp only at h0 h1 h5
            rw [cl53_0]
            refine .assoc (.then xr53_6 (by simp [o53_6, builtinD, lenD, pD, argA, h0, h5]; rfl) ?_)
            refine .head (by simp [opd, upd]; rfl) (fun _ => ?_) (fun hf => by simp [hlt] at hf)
            refine .seq (.block ?_)
            refine .assoc (.then xr53_8 (by simp [o53_8, builtinD, lenD, pD, argA, h0, h1, h5, hlt, hlt']; rfl) ?_)
            refine .seq (.cond (by simp [opd, upd]; rfl) (fun _ => ?_) (fun q1 => .skip ?_))
            · exact .then xr53_9 (by simp [o53_9, builtinD, lenD, pD, argA]; rfl) (.ret ⟨-1, by decide, by simp [upd]⟩)
            refine .then xr53_10 (by simp [o53_10, builtinD, lenD, pD, argA, h0, h1, h5, hlt, hlt']; rfl) ?_
            refine .cond (by simp [opd, upd]; rfl) (fun _ => ?_) (fun q2 => .skip ?_)
            · exact .then xr53_11 (by simp [o53_11, builtinD, lenD, pD, argA]; rfl) (.ret ⟨1, by decide, by simp [upd]⟩)
            refine .reg xr53_7 (by simp [o53_7, builtinD, lenD, pD, argA, h5]; rfl) ⟨by omega, ?_, ?_, ?_, ?_⟩
            · simp [upd, h0]
            · simp [upd, h1]
            · simp [upd, hk', hw]
            · have e1 : ¬ a[i] < b[i] := by simpa using q1
              have e2 : ¬ b[i] < a[i] := by simpa using q2
              rw [hk', List.take_succ_eq_append_getElem hlt, List.take_succ_eq_append_getElem hlt', eq, show a[i] = b[i] by omega]
          · rintro ⟨A, h⟩ ⟨le, h0, h1, h5, eq⟩
            exact absurd (by simpa [List.take_of_length_le, hl] using eq) hab
        obtain ⟨x, s', h1, h2⟩ := hV
        cases x with
        | normal => exact h2.elim
        | exit i => exact h2.elim
        | goto l => exact h2.elim
        | ret =>
          obtain ⟨c, hc, h4⟩ := h2
          refine ⟨c, hc, ?_⟩
          refine bodyR_V (run53 _ _ (by simp)) ⟨_, _, h1, ⟨.int .i64 c, by simp [resultsD, mapO, resultD, h4], by simp [snap, snapDepth]⟩⟩
      obtain ⟨c, hc, hb⟩ := key
      exact ⟨c, hb, by simp [hc, hab]⟩
  · refine ⟨1, ?_, by constructor <;> intro h; · cases h
                      · subst h; omega⟩
    have hl' : ¬ a.length < b.length := by omega
    refine bodyR_V (run53 _ _ (by simp)) ?_
    unfold b53
    refine .then xr53_0 (by simp [o53_0, builtinD, lenD, pD, argA]; rfl) ?_
    refine .assoc (.then xr53_1 (by simp [o53_1, builtinD, lenD, pD, argA, hl']; rfl) ?_)
    refine .seq (.cond (by simp [opd, upd]; rfl) (fun hf => by cases hf) (fun _ => .skip ?_))
    refine .assoc (.then xr53_3 (by simp [o53_3, builtinD, lenD, pD, argA, hl]; rfl) ?_)
    refine .seq (.cond (by simp [opd, upd]; rfl) (fun _ => ?_) (fun hf => by cases hf))
    exact .then xr53_4 (by simp [o53_4, builtinD, lenD, pD, argA]; rfl) (.ret ⟨_, by simp [resultsD, mapO, resultD, upd]; rfl, by simp [snap, snapDepth]⟩)

theorem snap_ints' (kp : Bool) (blk : Nat → Blk) (n : Nat) (l : List Int) : snap kp blk (n + 2) (.frz (l.map (D.int .i64)) .unk) = some (.frz (l.map (D.int .i64)) .unk, []) := by
  rw [snap_ints]; rfl

theorem spec21 {a b : List Int} (hL : a.length < 2 ^ 62) : bodyR 21 [.frz (a.map (D.int .i64)) .unk, .frz (b.map (D.int .i64)) .unk] = some (.bool (decide (a = b))) := by
  obtain ⟨c, hc, hc0⟩ := spec53 (a := a) (b := b) hL
  have call : ∀ h, callI E (.fn 53 []) [.frz (a.map (D.int .i64)) .unk, .frz (b.map (D.int .i64)) .unk] h = some (.int .i64 c, h, {}) := fun h => call_pure (by decide) (snaps2 (snap_ints' _ _ 7 a) (snap_ints' _ _ 7 b)) hc
  have hd : (c == 0) = decide (a = b) := by
    by_cases e : a = b
    · rw [hc0.2 e]; simp [e]
    · have : c ≠ 0 := fun q => e (hc0.1 q)
      simp [e, this]
  refine bodyR_V (run21 _ _ (by simp)) ?_
  unfold b21
  refine .then xr21_0 (by simp [o21_0, builtinD, lenD, pD, argA]; rfl) ?_
  refine .then xr21_1 (by simp [o21_1, builtinD, lenD, pD, argA, call, hd]; rfl) ?_
  refine .ret ⟨_, by simp [resultsD, mapO, resultD, upd]; rfl, by simp [snap, snapDepth]⟩
end Go.Eng.E3

namespace Go.Eng.E3
open Go Go.Eng Go.Proofs
set_option maxRecDepth 100000
attribute [local simp] execR runOps stepOp wantedD evalOp opd upd St.put Eff.apply upds looseOk FP.free FP.idle apart Eff.fp ofVal loadD storeD partD setPart indexAddrD isShift arith unD callOp mapO D.okc pickD buildable buildD placeD convD
set_option linter.unusedSimpArgs false

/-! ### Models over clean values, for the kernel to run -/

def decP : D → Option (Int × Int)
  | .agg [.int .i64 a, .int .i64 b] => some (a, b)
  | _ => none
def decL {α : Type} (f : D → Option α) : List D → Option (List α)
  | [] => some []
  | x :: r => match f x with
    | some y => match decL f r with
      | some ys => some (y :: ys)
      | none => none
    | none => none
def decRow : D → Option (List (Int × Int))
  | .frz l .unk => decL decP l
  | _ => none
def decM : D → Option M
  | .agg [.int .i64 (.ofNat i), .int .i64 (.ofNat o), .frz rows .unk] => match decL decRow rows with
    | some l => some ⟨i, o, l⟩
    | none => none
  | _ => none

theorem decP_ok {d : D} {p : Int × Int} (h : decP d = some p) : d = pD p := by
  unfold decP at h
  split at h
  · cases h; rfl
  · cases h
theorem decL_ok {α : Type} {f : D → Option α} {g : α → D} (hf : ∀ d x, f d = some x → d = g x) : ∀ (l : List D) (r : List α), decL f l = some r → l = r.map g
  | [], r, h => by simp only [decL] at h; cases h; rfl
  | x :: l, r, h => by
    simp only [decL] at h
    split at h
    · rename_i y hy
      split at h
      · rename_i ys hys
        cases h
        rw [List.map_cons, ← hf x y hy, ← decL_ok hf l ys hys]
      · cases h
    · cases h
theorem decRow_ok {d : D} {r : List (Int × Int)} (h : decRow d = some r) : d = rowD r := by
  unfold decRow at h
  split at h
  · rw [decL_ok (fun d x => decP_ok) _ _ h]; rfl
  · cases h
theorem decM_ok {d : D} {m : M} (h : decM d = some m) : d = encM m := by
  unfold decM at h
  split at h
  · split at h
    · rename_i l hl
      cases h
      rw [decL_ok (fun d x => decRow_ok) _ _ hl]; rfl
    · cases h
  · cases h

def ltI : Int → Nat → Bool
  | .ofNat a, n => Nat.blt a n
  | .negSucc _, _ => false
theorem ltI_ok {a : Int} {n : Nat} (h : ltI a n = true) : 0 ≤ a ∧ a < n := by
  cases a with
  | ofNat a => simp only [ltI, Nat.blt, Nat.ble_eq] at h; constructor <;> simp <;> omega
  | negSucc a => cases h
def noneE (e : Int × Int) : Bool := match e with | (.negSucc 0, .negSucc 0) => true | _ => false
def edgeB (n o : Nat) (e : Int × Int) : Bool := noneE e || (ltI e.1 n && ltI e.2 o)
def validB (m : M) : Bool := Nat.ble 1 m.ins && (Nat.ble m.ins 16 && (Nat.ble 1 m.outs && (Nat.ble m.outs 16 && (Nat.ble 1 m.rows.length && (Nat.ble m.rows.length 64 &&
  m.rows.all fun r => Nat.beq r.length m.ins && r.all (edgeB m.rows.length m.outs))))))
theorem validB_ok {m : M} (h : validB m = true) : Valid m := by
  simp only [validB, Bool.and_eq_true, Nat.ble_eq, List.all_eq_true, Nat.beq_eq] at h
  obtain ⟨h1, h2, h3, h4, h5, h6, h7⟩ := h
  refine ⟨h1, h2, h3, h4, h5, h6, fun r hr => (h7 r hr).1, fun r hr e he => ?_⟩
  have := (h7 r hr).2 e he
  simp only [edgeB, Bool.or_eq_true, Bool.and_eq_true] at this
  rcases this with q | ⟨q1, q2⟩
  · unfold noneE at q
    split at q
    · exact .inl rfl
    · cases q
  · exact .inr ⟨(ltI_ok q1).1, (ltI_ok q1).2, (ltI_ok q2).1, (ltI_ok q2).2⟩

def m111 : List D → Option D
  | [.frz l .unk, v] => match decL decP l, decP v with
    | some ps, some q => bif Nat.blt ps.length 4611686018427387904 then some (.int .i64 (idxI ps q)) else none
    | _, _ => none
  | _ => none
theorem ok111 : ModelOk E 111 m111 := modelOk_of fun xs r h => by
  unfold m111 at h
  split at h
  · rename_i l v
    split at h
    · rename_i ps q hps hq
      cases hb : Nat.blt ps.length 4611686018427387904 with
      | false => rw [hb] at h; cases h
      | true =>
        rw [hb] at h; cases h
        rw [decL_ok (fun d x => decP_ok) _ _ hps, decP_ok hq]
        exact spec111 (by simp only [Nat.blt, Nat.ble_eq] at hb; omega)
    · cases h
  · cases h
def m85 : List D → Option D
  | [d] => match decM d with
    | some m => bif validB m then some (.int .i64 0) else none
    | none => none
  | _ => none
theorem ok85 : ModelOk E 85 m85 := modelOk_of fun xs r h => by
  unfold m85 at h
  split at h
  · split at h
    · rename_i m hm
      cases hb : validB m with
      | false => rw [hb] at h; cases h
      | true => rw [hb] at h; cases h; rw [decM_ok hm]; exact spec85 (validB_ok hb)
    · cases h
  · cases h
def m74 : List D → Option D
  | [d, .int .i64 (.ofNat k)] => match decM d with
    | some m => bif validB m && Nat.blt k 4611686018427387904 then some (markD (markN m k)) else none
    | none => none
  | _ => none
theorem ok74 : ModelOk E 74 m74 := modelOk_of fun xs r h => by
  unfold m74 at h
  split at h
  · split at h
    · rename_i k _ m hm
      cases hb : validB m && Nat.blt k 4611686018427387904 with
      | false => rw [hb] at h; cases h
      | true =>
        rw [hb] at h; cases h; rw [decM_ok hm]
        simp only [Bool.and_eq_true] at hb
        exact spec74 (validB_ok hb.1) (by have := hb.2; simp only [Nat.blt, Nat.ble_eq] at this; omega)
    · cases h
  · cases h

def XT : Ext' := fun g => match g with
  | 111 => some m111
  | 85 => some m85
  | 74 => some m74
  | _ => none
theorem okXT (g : FuncId) (m : List D → Option D) (h : XT g = some m) : ModelOk E g m := by
  unfold XT at h
  split at h
  · cases h; exact ok111
  · cases h; exact ok85
  · cases h; exact ok74
  · cases h

theorem bodyI_of_callF {n : Nat} {g : FuncId} {args : List D} {r : D} {h' : FH} (e : bodyFF E (callF E XT n) n g args FH.empty = some (r, h')) : bodyI E g args H.empty = some (r, h'.up) :=
  bodyFF_up (callF_up okXT n) e
end Go.Eng.E3

namespace Go.Eng.E3
open Go Go.Eng Go.Proofs
set_option maxRecDepth 1000000
/-- The examples of chapter 10 hold. -/
theorem lives10 : bodyR 23 [] = some (.bool true) := run_bool (X := XT) (n := 200) okXT (by kernel_rfl)
end Go.Eng.E3

namespace Go.Eng.E3
open Go Go.Eng
set_option linter.unusedSimpArgs false
set_option linter.unusedVariables false

/-! ### Words and responses -/

def Wok (m : M) (w : List Nat) : Prop := ∀ i ∈ w, i < m.ins

theorem edge_ok {m : M} (hv : Valid m) {s i : Nat} (hs : s < m.rows.length) (hi : i < m.ins) : EdgeOk m (edge m s i) := by
  have hl := hv.len _ (List.getElem_mem hs)
  have : edge m s i = (m.rows[s])[i]'(by omega) := by simp [edge, hs, hl, hi]
  rw [this]
  exact hv.ok _ (List.getElem_mem hs) _ (List.getElem_mem _)

theorem nextM_nat (m : M) (s : Nat) (i : Nat) : nextM m (s : Int) i = edge m s i := by
  unfold nextM edge
  rw [if_neg (by omega)]
  rfl

theorem next_neg (m : M) {s : Int} (hs : s < 0) (i : Nat) : nextM m s i = (-1, -1) := by unfold nextM; rw [if_pos hs]

theorem next_ok {m : M} (hv : Valid m) {s : Int} (hs : StOk m s) {i : Nat} (hi : i < m.ins) : EdgeOk m (nextM m s i) := by
  rcases hs with rfl | ⟨h1, h2⟩
  · exact .inl (next_neg m (by omega) i)
  · obtain ⟨n, rfl⟩ := Int.eq_ofNat_of_zero_le h1
    rw [nextM_nat]
    exact edge_ok hv (by omega) hi

theorem EdgeOk.st {m : M} {e : Int × Int} (h : EdgeOk m e) : StOk m e.1 := by
  rcases h with rfl | h
  · exact .inl rfl
  · exact .inr ⟨h.1, h.2.1⟩

theorem EdgeOk.sign {m : M} {e : Int × Int} (h : EdgeOk m e) : e.1 < 0 ↔ e.2 = -1 := by
  rcases h with rfl | ⟨h1, h2, h3, h4⟩
  · simp
  · omega

theorem StOk.neg {m : M} {s : Int} (h : StOk m s) (hs : s < 0) : s = -1 := by rcases h with h | h <;> omega

theorem Wok.cons {m : M} {i : Nat} {w : List Nat} : Wok m (i :: w) ↔ i < m.ins ∧ Wok m w := by
  unfold Wok; simp
theorem Wok.app {m : M} {u v : List Nat} : Wok m (u ++ v) ↔ Wok m u ∧ Wok m v := by
  unfold Wok; simp only [List.mem_append]
  constructor
  · intro h; exact ⟨fun i hi => h i (.inl hi), fun i hi => h i (.inr hi)⟩
  · rintro ⟨h1, h2⟩ i (hi | hi); exact h1 i hi; exact h2 i hi
theorem Wok.nil {m : M} : Wok m [] := fun _ h => by cases h

theorem aftOk {m : M} (hv : Valid m) : ∀ {w : List Nat} {s : Int}, StOk m s → Wok m w → StOk m (aftM m s w)
  | [], _, hs, _ => hs
  | i :: w, s, hs, hw => by
    have := Wok.cons.1 hw
    exact aftOk hv (w := w) (next_ok hv hs this.1).st this.2

theorem aft_neg {m : M} : ∀ (w : List Nat) {s : Int}, s < 0 → aftM m s w < 0
  | [], _, h => h
  | i :: w, s, h => by
    rw [aftM, next_neg m h]
    exact aft_neg w (s := -1) (by decide)

theorem aft_app (m : M) : ∀ (u v : List Nat) (s : Int), aftM m s (u ++ v) = aftM m (aftM m s u) v
  | [], _, _ => rfl
  | i :: u, v, s => aft_app m u v _

theorem run_app (m : M) : ∀ (u v : List Nat) (s : Int), runM m s (u ++ v) = runM m s u ++ runM m (aftM m s u) v
  | [], _, _ => rfl
  | i :: u, v, s => by
    show _ :: runM m _ (u ++ v) = _ :: (runM m _ u ++ _)
    rw [run_app m u v]; rfl

theorem run_len (m : M) : ∀ (w : List Nat) (s : Int), (runM m s w).length = w.length
  | [], _ => rfl
  | i :: w, s => by simp [runM, run_len m w]

theorem run_neg (a b : M) : ∀ (w : List Nat) {s t : Int}, s < 0 → t < 0 → runM a s w = runM b t w
  | [], _, _, _, _ => rfl
  | i :: w, s, t, hs, ht => by
    rw [runM, runM, next_neg a hs, next_neg b ht, run_neg a b w (s := -1) (t := -1) (by decide) (by decide)]

/-- Two states answer alike. -/
def Eqv (a b : M) (s t : Int) : Prop := ∀ w, Wok a w → runM a s w = runM b t w

theorem Eqv.refl (a : M) (s : Int) : Eqv a a s s := fun _ _ => rfl
theorem Eqv.symm {a b : M} (hi : a.ins = b.ins) {s t : Int} (h : Eqv a b s t) : Eqv b a t s := fun w hw => (h w (by unfold Wok at *; rw [hi]; exact hw)).symm
theorem Eqv.trans {a b c : M} (hi : a.ins = b.ins) {s t u : Int} (h : Eqv a b s t) (h' : Eqv b c t u) : Eqv a c s u := fun w hw => (h w hw).trans (h' w (by unfold Wok at *; rw [← hi]; exact hw))
theorem Eqv.neg (a b : M) {s t : Int} (hs : s < 0) (ht : t < 0) : Eqv a b s t := fun w _ => run_neg a b w hs ht

theorem Eqv.next {a b : M} {s t : Int} (h : Eqv a b s t) {i : Nat} (hi : i < a.ins) : (nextM a s i).2 = (nextM b t i).2 ∧ Eqv a b (nextM a s i).1 (nextM b t i).1 := by
  constructor
  · have := h [i] (Wok.cons.2 ⟨hi, Wok.nil⟩)
    simp only [runM] at this
    exact (List.cons.inj this).1
  · intro w hw
    have := h (i :: w) (Wok.cons.2 ⟨hi, hw⟩)
    simp only [runM] at this
    exact (List.cons.inj this).2

theorem Eqv.aft {a b : M} : ∀ {w : List Nat} {s t : Int}, Eqv a b s t → Wok a w → Eqv a b (aftM a s w) (aftM b t w)
  | [], _, _, h, _ => h
  | i :: w, s, t, h, hw => Eqv.aft (w := w) (h.next (Wok.cons.1 hw).1).2 (Wok.cons.1 hw).2

theorem Eqv.sign1 {a b : M} (ha : Valid a) (hb : Valid b) (hi : a.ins = b.ins) {s t : Int} (hs : StOk a s) (ht : StOk b t) (h : Eqv a b s t) {i : Nat} (hw : i < a.ins) : (nextM a s i).1 < 0 ↔ (nextM b t i).1 < 0 := by
  have h1 := (next_ok ha hs hw).sign
  have h2 := (next_ok hb ht (by omega : i < b.ins)).sign
  rw [h1, h2, (h.next hw).1]

theorem Eqv.sign {a b : M} (ha : Valid a) (hb : Valid b) (hi : a.ins = b.ins) : ∀ {w : List Nat} {s t : Int}, StOk a s → StOk b t → Eqv a b s t → (s < 0 ↔ t < 0) → Wok a w → (aftM a s w < 0 ↔ aftM b t w < 0)
  | [], _, _, _, _, _, hs, _ => hs
  | i :: w, s, t, hs, ht, h, hst, hw => by
    have hw' := Wok.cons.1 hw
    exact Eqv.sign ha hb hi (w := w) (next_ok ha hs hw'.1).st (next_ok hb ht (by omega)).st (h.next hw'.1).2 (h.sign1 ha hb hi hs ht hw'.1) hw'.2

/-! ### Marks -/

theorem apartN_iff {m : M} {mk : List (List Bool)} {s t : Nat} : ∀ (k i : Nat), apartN m mk s t k i = true ↔ ∃ j, i ≤ j ∧ j < i + k ∧ apartAt m mk s t j = true
  | 0, i => by simp [apartN]; intro j h1 h2; omega
  | k + 1, i => by
    rw [apartN, Bool.or_eq_true, apartN_iff k (i + 1)]
    constructor
    · rintro (h | ⟨j, h1, h2, h3⟩)
      · exact ⟨i, by omega, by omega, h⟩
      · exact ⟨j, by omega, by omega, h3⟩
    · rintro ⟨j, h1, h2, h3⟩
      rcases Nat.lt_or_ge i j with h | h
      · exact .inr ⟨j, by omega, by omega, h3⟩
      · have : j = i := by omega
        subst this; exact .inl h3

/-- Told apart by a word of at most k symbols. -/
def Diff (m : M) (k : Nat) (s t : Int) : Prop := ∃ w, w.length ≤ k ∧ Wok m w ∧ runM m s w ≠ runM m t w

theorem Diff.mono {m : M} {k k' : Nat} {s t : Int} (h : Diff m k s t) (hk : k ≤ k') : Diff m k' s t := by
  obtain ⟨w, h1, h2, h3⟩ := h; exact ⟨w, by omega, h2, h3⟩

theorem diff_zero {m : M} {s t : Int} : ¬ Diff m 0 s t := by
  rintro ⟨w, h1, _, h3⟩
  have : w = [] := by cases w with | nil => rfl | cons _ _ => simp at h1
  subst this; exact h3 rfl

theorem diff_succ {m : M} (hv : Valid m) {k : Nat} {s t : Nat} (hs : s < m.rows.length) (ht : t < m.rows.length) :
    Diff m (k + 1) s t ↔ ∃ i, i < m.ins ∧ ((edge m s i).2 ≠ (edge m t i).2 ∨ (0 ≤ (edge m s i).1 ∧ 0 ≤ (edge m t i).1 ∧ Diff m k (edge m s i).1 (edge m t i).1)) := by
  constructor
  · rintro ⟨w, h1, h2, h3⟩
    cases w with
    | nil => exact absurd rfl h3
    | cons i w =>
      have hw := Wok.cons.1 h2
      refine ⟨i, hw.1, ?_⟩
      rw [runM, runM, nextM_nat, nextM_nat] at h3
      by_cases ho : (edge m s i).2 = (edge m t i).2
      · have e1 := edge_ok hv hs hw.1
        have e2 := edge_ok hv ht hw.1
        rw [ho] at h3
        have h4 : runM m (edge m s i).1 w ≠ runM m (edge m t i).1 w := fun e => h3 (by rw [e])
        by_cases hn : (edge m s i).1 < 0
        · have : (edge m t i).1 < 0 := by rw [e2.sign, ← ho, ← e1.sign]; exact hn
          exact absurd (run_neg m m w hn this) h4
        · have : ¬ (edge m t i).1 < 0 := by rw [e2.sign, ← ho, ← e1.sign]; exact hn
          exact .inr ⟨by omega, by omega, w, by simp at h1; omega, hw.2, h4⟩
      · exact .inl ho
  · rintro ⟨i, hi, h | ⟨_, _, w, h1, h2, h3⟩⟩
    · refine ⟨[i], by simp, Wok.cons.2 ⟨hi, Wok.nil⟩, fun e => h ?_⟩
      simp only [runM, nextM_nat] at e
      exact (List.cons.inj e).1
    · refine ⟨i :: w, by simp; omega, Wok.cons.2 ⟨hi, h2⟩, fun e => h3 ?_⟩
      simp only [runM, nextM_nat] at e
      exact (List.cons.inj e).2

theorem mget_step {m : M} {mk : List (List Bool)} {s t : Nat} (hs : s < m.rows.length) (ht : t < m.rows.length) : mget (stepM m mk) s t = cellM m mk s t := by
  simp [mget, stepM, hs, ht]

theorem mark_iff {m : M} (hv : Valid m) : ∀ (k : Nat) {s t : Nat}, s < m.rows.length → t < m.rows.length → (mget (markN m k) s t = true ↔ Diff m k s t)
  | 0, s, t, hs, ht => by
    constructor
    · intro h; simp [markN, zeroM, mget, hs, ht] at h
    · intro h; exact absurd h diff_zero
  | k + 1, s, t, hs, ht => by
    have ih := fun {s t} => mark_iff hv k (s := s) (t := t)
    rw [markN, mget_step hs ht, cellM, Bool.or_eq_true, ih hs ht, apartN_iff, diff_succ hv hs ht]
    have key : ∀ j, j < m.ins → (apartAt m (markN m k) s t j = true ↔ ((edge m s j).2 ≠ (edge m t j).2 ∨ (0 ≤ (edge m s j).1 ∧ 0 ≤ (edge m t j).1 ∧ Diff m k (edge m s j).1 (edge m t j).1))) := by
      intro j hj
      have e1 := (edge_ok hv hs hj).st
      have e2 := (edge_ok hv ht hj).st
      simp only [apartAt, Bool.or_eq_true, Bool.not_eq_true', decide_eq_false_iff_not, Bool.and_eq_true, decide_eq_true_eq]
      constructor
      · rintro (h | ⟨h1, h2, h3⟩)
        · exact .inl h
        · refine .inr ⟨h1, h2, ?_⟩
          have l1 : (edge m s j).1.toNat < m.rows.length := by rcases e1 with e | e <;> omega
          have l2 : (edge m t j).1.toNat < m.rows.length := by rcases e2 with e | e <;> omega
          have := (ih l1 l2).1 h3
          rwa [Int.toNat_of_nonneg h1, Int.toNat_of_nonneg h2] at this
      · rintro (h | ⟨h1, h2, h3⟩)
        · exact .inl h
        · refine .inr ⟨h1, h2, ?_⟩
          have l1 : (edge m s j).1.toNat < m.rows.length := by rcases e1 with e | e <;> omega
          have l2 : (edge m t j).1.toNat < m.rows.length := by rcases e2 with e | e <;> omega
          refine (ih l1 l2).2 ?_
          rwa [Int.toNat_of_nonneg h1, Int.toNat_of_nonneg h2]
    constructor
    · rintro (h | ⟨j, _, h2, h3⟩)
      · exact (diff_succ hv hs ht).1 (h.mono (Nat.le_succ k))
      · exact ⟨j, by omega, (key j (by omega)).1 h3⟩
    · rintro ⟨j, hj, h⟩
      exact .inr ⟨j, by omega, by omega, (key j hj).2 h⟩

theorem filter_lt {α : Type} {p q : α → Bool} : ∀ {l : List α}, (∀ x ∈ l, p x = true → q x = true) → ∀ x ∈ l, p x = false → q x = true → (l.filter p).length < (l.filter q).length
  | [], _, _, h, _, _ => by cases h
  | y :: l, h, x, hx, hp, hq => by
    have le : ∀ {l : List α}, (∀ x ∈ l, p x = true → q x = true) → (l.filter p).length ≤ (l.filter q).length := by
      intro l
      induction l with
      | nil => intro _; simp
      | cons z l ih =>
        intro h
        have := ih fun x hx => h x (List.mem_cons_of_mem _ hx)
        have hz := h z (List.mem_cons_self ..)
        rw [List.filter_cons, List.filter_cons]
        cases hpz : p z with
        | true => rw [hz hpz]; simp; omega
        | false => cases q z <;> simp <;> omega
    have h' : ∀ x ∈ l, p x = true → q x = true := fun x hx => h x (List.mem_cons_of_mem _ hx)
    rw [List.filter_cons, List.filter_cons]
    rcases List.mem_cons.1 hx with rfl | hx
    · rw [hp, hq]
      have := le h'
      simp; omega
    · have ih := filter_lt h' x hx hp hq
      have hy := h y (List.mem_cons_self ..)
      cases hpy : p y with
      | true => rw [hy hpy]; simp; omega
      | false => cases q y <;> simp <;> omega

def leastB (m : M) (k s : Nat) : Bool := (List.range s).all fun t => mget (markN m k) s t
def leasts (m : M) (k : Nat) : List Nat := (List.range m.rows.length).filter (leastB m k)

theorem leastB_iff {m : M} (hv : Valid m) {k s : Nat} (hs : s < m.rows.length) : leastB m k s = true ↔ ∀ t, t < s → Diff m k (s : Nat) (t : Nat) := by
  unfold leastB
  rw [List.all_eq_true]
  constructor
  · intro h t ht; exact (mark_iff hv k hs (by omega)).1 (h t (List.mem_range.2 ht))
  · intro h t ht; have := List.mem_range.1 ht; exact (mark_iff hv k hs (by omega)).2 (h t this)

theorem Diff.symm {m : M} {k : Nat} {s t : Int} (h : Diff m k s t) : Diff m k t s := by
  obtain ⟨w, h1, h2, h3⟩ := h; exact ⟨w, h1, h2, fun e => h3 e.symm⟩
theorem Diff.split {m : M} {k : Nat} {s t : Int} (u : Int) (h : Diff m k s t) : Diff m k s u ∨ Diff m k u t := by
  obtain ⟨w, h1, h2, h3⟩ := h
  by_cases e : runM m s w = runM m u w
  · exact .inr ⟨w, h1, h2, fun e' => h3 (e.trans e')⟩
  · exact .inl ⟨w, h1, h2, e⟩

theorem exists_least {P : Nat → Prop} {n : Nat} (h : P n) : ∃ k, k ≤ n ∧ P k ∧ ∀ j, j < k → ¬ P j := by
  induction n using Nat.strongRecOn with
  | ind n ih =>
    by_cases hex : ∃ j, j < n ∧ P j
    · obtain ⟨j, hj, hp⟩ := hex
      obtain ⟨k, h1, h2, h3⟩ := ih j hj hp
      exact ⟨k, by omega, h2, h3⟩
    · exact ⟨n, Nat.le_refl _, h, fun j hj hp => hex ⟨j, hj, hp⟩⟩

theorem leasts_grow {m : M} (hv : Valid m) {k s t : Nat} (hs : s < m.rows.length) (ht : t < m.rows.length) (h0 : ¬ Diff m k (s : Nat) (t : Nat)) (h1 : Diff m (k + 1) (s : Nat) (t : Nat)) : (leasts m k).length < (leasts m (k + 1)).length := by
  -- the least state of the class
  obtain ⟨u, hu, hus, hul⟩ := exists_least (P := fun u => ¬ Diff m k (u : Nat) (s : Nat)) (n := s) (fun ⟨w, _, _, h⟩ => h rfl)
  have hmono : ∀ x ∈ List.range m.rows.length, leastB m k x = true → leastB m (k + 1) x = true := fun x hx h => by
    have hx' := List.mem_range.1 hx
    rw [leastB_iff hv hx'] at h ⊢
    exact fun t ht => (h t ht).mono (Nat.le_succ k)
  -- a member of the class that leaves u
  have main : ∀ v : Nat, v < m.rows.length → ¬ Diff m k (v : Nat) (s : Nat) → Diff m (k + 1) (u : Nat) (v : Nat) → (leasts m k).length < (leasts m (k + 1)).length := by
    intro v hv' hvs hd
    obtain ⟨x, hx, hxv, hxl⟩ := exists_least (P := fun x => ¬ Diff m (k + 1) (x : Nat) (v : Nat)) (n := v) (fun ⟨w, _, _, h⟩ => h rfl)
    have hxn : x < m.rows.length := by omega
    have hxs : ¬ Diff m k (x : Nat) (s : Nat) := fun h => by
      rcases h.split (v : Nat) with h | h
      · exact hxv (h.mono (Nat.le_succ k))
      · exact hvs h
    have hux : u ≠ x := fun e => by subst e; exact hxv hd
    have hux' : u < x := by
      rcases Nat.lt_or_ge x u with h | h
      · exact absurd hxs (hul x h)
      · omega
    refine filter_lt hmono x (List.mem_range.2 hxn) ?_ ?_
    · rw [Bool.eq_false_iff]
      intro h
      rw [leastB_iff hv hxn] at h
      rcases (h u hux').split (s : Nat) with h | h
      · exact hxs h
      · exact hus h.symm
    · rw [leastB_iff hv hxn]
      intro y hy
      have := hxl y hy
      have hy' : Diff m (k + 1) (y : Nat) (v : Nat) := Classical.not_not.1 this
      rcases hy'.split (x : Nat) with h | h
      · exact h.symm
      · exact absurd h hxv
  have hts : ¬ Diff m k (t : Nat) (s : Nat) := fun h => h0 h.symm
  rcases h1.split (u : Nat) with h | h
  · exact main s hs (fun ⟨w, _, _, h⟩ => h rfl) h.symm
  · exact main t ht hts h

theorem stable_at {m : M} (hv : Valid m) : ∃ j, j ≤ m.rows.length ∧ ∀ s t : Nat, s < m.rows.length → t < m.rows.length → Diff m (j + 1) (s : Nat) (t : Nat) → Diff m j (s : Nat) (t : Nat) := by
  have key : ∀ k, (∃ j, j < k ∧ ∀ s t : Nat, s < m.rows.length → t < m.rows.length → Diff m (j + 1) (s : Nat) (t : Nat) → Diff m j (s : Nat) (t : Nat)) ∨ k + 1 ≤ (leasts m k).length := by
    intro k
    induction k with
    | zero =>
      right
      have r1 := hv.r1
      have : (0 : Nat) ∈ leasts m 0 := by
        unfold leasts
        rw [List.mem_filter]
        exact ⟨List.mem_range.2 (by omega), by simp [leastB]⟩
      have := List.length_pos_of_mem this
      omega
    | succ k ih =>
      rcases ih with ⟨j, h1, h2⟩ | h
      · exact .inl ⟨j, by omega, h2⟩
      · by_cases hst : ∀ s t : Nat, s < m.rows.length → t < m.rows.length → Diff m (k + 1) (s : Nat) (t : Nat) → Diff m k (s : Nat) (t : Nat)
        · exact .inl ⟨k, by omega, hst⟩
        · right
          have : ∃ s t : Nat, s < m.rows.length ∧ t < m.rows.length ∧ Diff m (k + 1) (s : Nat) (t : Nat) ∧ ¬ Diff m k (s : Nat) (t : Nat) := by
            apply Classical.byContradiction
            intro hne
            exact hst fun s t hs ht hd => Classical.byContradiction fun hn => hne ⟨s, t, hs, ht, hd, hn⟩
          obtain ⟨s, t, hs, ht, hd, hn⟩ := this
          have := leasts_grow hv hs ht hn hd
          omega
  rcases key (m.rows.length) with ⟨j, h1, h2⟩ | h
  · exact ⟨j, by omega, h2⟩
  · have : (leasts m m.rows.length).length ≤ (List.range m.rows.length).length := List.length_filter_le ..
    simp at this
    omega

theorem diff_all {m : M} (hv : Valid m) {k : Nat} {s t : Nat} (hs : s < m.rows.length) (ht : t < m.rows.length) (h : Diff m k (s : Nat) (t : Nat)) : Diff m m.rows.length (s : Nat) (t : Nat) := by
  obtain ⟨j, hj, hst⟩ := stable_at hv
  have key : ∀ d, ∀ s t : Nat, s < m.rows.length → t < m.rows.length → Diff m (j + d) (s : Nat) (t : Nat) → Diff m j (s : Nat) (t : Nat) := by
    intro d
    induction d with
    | zero => intro s t _ _ h; exact h
    | succ d ih =>
      intro s t hs ht h
      rw [show j + (d + 1) = (j + d) + 1 from rfl, diff_succ hv hs ht] at h
      refine hst s t hs ht ((diff_succ hv hs ht).2 ?_)
      obtain ⟨i, hi, h⟩ := h
      refine ⟨i, hi, h.imp id ?_⟩
      rintro ⟨h1, h2, h3⟩
      refine ⟨h1, h2, ?_⟩
      have e1 := (edge_ok hv hs hi).st
      have e2 := (edge_ok hv ht hi).st
      have := ih (edge m s i).1.toNat (edge m t i).1.toNat (by rcases e1 with e | e <;> omega) (by rcases e2 with e | e <;> omega)
      rw [Int.toNat_of_nonneg h1, Int.toNat_of_nonneg h2] at this
      exact this h3
  exact ((key k s t hs ht (h.mono (by omega))).mono hj)

theorem unmarked_iff {m : M} (hv : Valid m) {s t : Nat} (hs : s < m.rows.length) (ht : t < m.rows.length) : mget (markN m m.rows.length) s t = false ↔ Eqv m m s t := by
  rw [Bool.eq_false_iff, ne_eq, mark_iff hv _ hs ht]
  constructor
  · intro h w hw
    exact Classical.byContradiction fun hne => h (diff_all hv hs ht ⟨w, Nat.le_refl _, hw, hne⟩)
  · rintro h ⟨w, _, hw, hne⟩
    exact hne (h w hw)
end Go.Eng.E3

namespace Go.Eng.E3
open Go Go.Eng
set_option linter.unusedSimpArgs false
set_option linter.unusedVariables false

/-! ### The order of words -/

theorem lex_irrefl : ∀ u, lexM u u = false
  | [] => rfl
  | a :: u => by rw [lexM, if_pos rfl, lex_irrefl u]

theorem lex_trans : ∀ {u v w}, lexM u v = true → lexM v w = true → lexM u w = true
  | a :: u, b :: v, c :: w, h1, h2 => by
    rw [lexM] at h1 h2 ⊢
    by_cases e1 : a = b
    · rw [if_pos e1] at h1
      by_cases e2 : b = c
      · rw [if_pos e2] at h2
        rw [if_pos (e1.trans e2)]
        exact lex_trans h1 h2
      · rw [if_neg e2] at h2
        rw [if_neg (by rw [e1]; exact e2), e1]; exact h2
    · rw [if_neg e1] at h1
      have h1' := of_decide_eq_true h1
      by_cases e2 : b = c
      · rw [if_neg (by omega), ← e2]; exact h1
      · rw [if_neg e2] at h2
        have h2' := of_decide_eq_true h2
        rw [if_neg (by omega)]
        exact decide_eq_true (by omega)
  | [], [], _, h, _ => by cases h
  | [], _ :: _, _, h, _ => by cases h
  | _ :: _, [], _, h, _ => by cases h
  | _ :: _, _ :: _, [], _, h => by cases h

theorem lex_total : ∀ {u v : List Nat}, u.length = v.length → u = v ∨ lexM u v = true ∨ lexM v u = true
  | [], [], _ => .inl rfl
  | a :: u, b :: v, h => by
    have h' : u.length = v.length := by simpa using h
    rw [lexM, lexM]
    rcases Nat.lt_trichotomy a b with e | e | e
    · right; left; rw [if_neg (by omega)]; exact decide_eq_true e
    · subst e
      rw [if_pos rfl, if_pos rfl]
      rcases lex_total h' with e | e | e
      · exact .inl (by rw [e])
      · exact .inr (.inl e)
      · exact .inr (.inr e)
    · right; right; rw [if_neg (by omega)]; exact decide_eq_true e
  | [], _ :: _, h => by simp at h
  | _ :: _, [], h => by simp at h

theorem lex_app : ∀ {u v : List Nat} (x y : List Nat), u.length = v.length → lexM u v = true → lexM (u ++ x) (v ++ y) = true
  | [], [], _, _, _, h => by cases h
  | a :: u, b :: v, x, y, hl, h => by
    have hl' : u.length = v.length := by simpa using hl
    rw [List.cons_append, List.cons_append]
    rw [lexM] at h ⊢
    by_cases e : a = b
    · rw [if_pos e] at h ⊢; exact lex_app x y hl' h
    · rw [if_neg e] at h ⊢; exact h
  | [], _ :: _, _, _, h, _ => by simp at h
  | _ :: _, [], _, _, h, _ => by simp at h
theorem lex_same : ∀ (u x y : List Nat), lexM (u ++ x) (u ++ y) = lexM x y
  | [], _, _ => rfl
  | a :: u, x, y => by rw [List.cons_append, List.cons_append, lexM, if_pos rfl, lex_same u]

theorem less_irrefl (u : List Nat) : lessM u u = false := by rw [lessM, if_pos rfl, lex_irrefl]
theorem less_iff (u v : List Nat) : lessM u v = true ↔ u.length < v.length ∨ (u.length = v.length ∧ lexM u v = true) := by
  unfold lessM
  by_cases h : u.length = v.length
  · rw [if_pos h]; constructor
    · intro e; exact .inr ⟨h, e⟩
    · rintro (e | e); omega; exact e.2
  · rw [if_neg h, decide_eq_true_eq]; constructor
    · intro e; exact .inl e
    · rintro (e | e); exact e; exact absurd e.1 h
theorem less_trans {u v w : List Nat} (h1 : lessM u v = true) (h2 : lessM v w = true) : lessM u w = true := by
  rw [less_iff] at *
  rcases h1 with h1 | ⟨h1, h1'⟩ <;> rcases h2 with h2 | ⟨h2, h2'⟩
  · exact .inl (by omega)
  · exact .inl (by omega)
  · exact .inl (by omega)
  · exact .inr ⟨by omega, lex_trans h1' h2'⟩
theorem less_total (u v : List Nat) : u = v ∨ lessM u v = true ∨ lessM v u = true := by
  rw [less_iff, less_iff]
  rcases Nat.lt_trichotomy u.length v.length with h | h | h
  · exact .inr (.inl (.inl h))
  · rcases lex_total h with e | e | e
    · exact .inl e
    · exact .inr (.inl (.inr ⟨h, e⟩))
    · exact .inr (.inr (.inr ⟨h.symm, e⟩))
  · exact .inr (.inr (.inl h))
theorem less_asymm {u v : List Nat} (h : lessM u v = true) : lessM v u = false := by
  cases e : lessM v u with
  | false => rfl
  | true => have := less_trans h e; rw [less_irrefl] at this; cases this
/-- v is not before u. -/
theorem le_of {u v : List Nat} (h : lessM v u = false) : u = v ∨ lessM u v = true := by
  rcases less_total u v with e | e | e
  · exact .inl e
  · exact .inr e
  · rw [h] at e; cases e
theorem le_trans' {u v w : List Nat} (h1 : lessM v u = false) (h2 : lessM w v = false) : lessM w u = false := by
  rcases le_of h1 with rfl | h1
  · exact h2
  · rcases le_of h2 with rfl | h2
    · exact less_asymm h1
    · exact less_asymm (less_trans h1 h2)
theorem less_snoc {u v : List Nat} (i : Nat) (h : lessM u v = true) : lessM (u ++ [i]) (v ++ [i]) = true := by
  rw [less_iff] at *
  simp only [List.length_append, List.length_singleton]
  rcases h with h | ⟨h, h'⟩
  · exact .inl (by omega)
  · exact .inr ⟨by omega, lex_app _ _ h h'⟩
theorem le_snoc {u v : List Nat} (i : Nat) (h : lessM v u = false) : lessM (v ++ [i]) (u ++ [i]) = false := by
  rcases le_of h with rfl | h
  · exact less_irrefl _
  · exact less_asymm (less_snoc i h)

/-! ### The walk by levels -/

theorem getD_set_self {α : Type} {l : List α} {i : Nat} (h : i < l.length) (x d : α) : (l.set i x).getD i d = x := by simp [h]
theorem getD_set_ne {α : Type} {l : List α} {i j : Nat} (h : i ≠ j) (x d : α) : (l.set i x).getD j d = l.getD j d := by simp [List.getElem?_set_ne h]

structure FI (m : M) (f : Nat) (p0 : PS) (done : List (List Nat)) (A : List (List Nat)) (p : PS) : Prop where
  ll : p.l.length = m.rows.length
  il : p.is.length = m.rows.length
  more : p.more = A.flatMap fun w => childs w m.ins
  sub : A.Sublist done
  mem : ∀ w ∈ A, 0 ≤ aftM m f w ∧ p.is.getD (aftM m f w).toNat false = true ∧ p.l.getD (aftM m f w).toNat [] = w
  keep : ∀ s, s < m.rows.length → p0.is.getD s false = true → p.is.getD s false = true ∧ p.l.getD s [] = p0.l.getD s []
  new : ∀ s, s < m.rows.length → p.is.getD s false = true → p0.is.getD s false = true ∨ (p.l.getD s [] ∈ A ∧ aftM m f (p.l.getD s []) = s ∧ ∀ w ∈ done, aftM m f w = s → lessM w (p.l.getD s []) = false)
  seen : ∀ w ∈ done, 0 ≤ aftM m f w → p.is.getD (aftM m f w).toNat false = true

theorem FI.visit {m : M} {f : Nat} {p0 p : PS} {done A : List (List Nat)} {w : List Nat} (hs : StOk m (aftM m f w)) (hsort : ∀ u ∈ done, lessM u w = true) (h : FI m f p0 done A p) : ∃ A', FI m f p0 (done ++ [w]) A' (visitM m f p w) := by
  obtain ⟨ll, il, more, sub, mem, keep, new, seen⟩ := h
  unfold visitM
  simp only
  by_cases hc : aftM m f w < 0 ∨ p.is.getD (aftM m f w).toNat false = true
  · rw [if_pos hc]
    refine ⟨A, ll, il, more, sub.trans (List.sublist_append_left _ _), mem, keep, ?_, ?_⟩
    · intro s hs his
      refine (new s hs his).imp id fun ⟨h1, h2, h3⟩ => ⟨h1, h2, fun u hu hus => ?_⟩
      rcases List.mem_append.1 hu with hu | hu
      · exact h3 u hu hus
      · simp at hu; subst hu
        exact less_asymm (hsort _ (sub.subset h1))
    · intro u hu hus
      rcases List.mem_append.1 hu with hu | hu
      · exact seen u hu hus
      · simp at hu; subst hu
        rcases hc with hc | hc
        · omega
        · exact hc
  · rw [if_neg hc]
    have h0 : 0 ≤ aftM m f w := by omega
    have hnf : ¬ p.is.getD (aftM m f w).toNat false = true := fun e => hc (.inr e)
    obtain ⟨t, ht⟩ := Int.eq_ofNat_of_zero_le h0
    have htn : t < m.rows.length := by rcases hs with e | e <;> omega
    rw [ht] at hnf
    simp only [Int.toNat_natCast] at hnf
    simp only [ht, Int.toNat_natCast]
    have il' : t < p.is.length := by omega
    have ll' : t < p.l.length := by omega
    refine ⟨A ++ [w], by simpa using ll, by simpa using il, by simp [more, List.flatMap_append], ?_, ?_, ?_, ?_, ?_⟩
    · exact sub.append (List.Sublist.refl _)
    · intro u hu
      rcases List.mem_append.1 hu with hu | hu
      · obtain ⟨a1, a2, a3⟩ := mem u hu
        have hne : t ≠ (aftM m f u).toNat := fun e => hnf (by rw [e]; exact a2)
        refine ⟨a1, ?_, ?_⟩
        · rw [getD_set_ne hne]; exact a2
        · rw [getD_set_ne hne]; exact a3
      · simp at hu; subst hu
        rw [ht]
        simp only [Int.toNat_natCast]
        exact ⟨by omega, getD_set_self il' _ _, getD_set_self ll' _ _⟩
    · intro s hs h0
      have hk := keep s hs h0
      have hne : t ≠ s := fun e => hnf (by rw [e]; exact hk.1)
      rw [getD_set_ne hne, getD_set_ne hne]
      exact hk
    · intro s hs his
      by_cases hne : t = s
      · subst hne
        right
        rw [getD_set_self ll']
        refine ⟨List.mem_append_right _ (List.mem_singleton.2 rfl), ht, fun u hu hus => ?_⟩
        rcases List.mem_append.1 hu with hu | hu
        · have := seen u hu (by omega)
          rw [hus] at this
          exact absurd this hnf
        · simp at hu; subst hu; exact less_irrefl _
      · rw [getD_set_ne hne] at his
        rw [getD_set_ne hne]
        refine (new s hs his).imp id fun ⟨h1, h2, h3⟩ => ⟨List.mem_append_left _ h1, h2, fun u hu hus => ?_⟩
        rcases List.mem_append.1 hu with hu | hu
        · exact h3 u hu hus
        · simp at hu; subst hu
          rw [ht] at hus; omega
    · intro u hu hus
      rcases List.mem_append.1 hu with hu | hu
      · have := seen u hu hus
        by_cases hne : t = (aftM m f u).toNat
        · rw [← hne]; exact getD_set_self il' _ _
        · rw [getD_set_ne hne]; exact this
      · simp at hu; subst hu
        rw [ht]; exact getD_set_self il' _ _

theorem FI.fold {m : M} {f : Nat} {p0 : PS} : ∀ (ws : List (List Nat)) {done A : List (List Nat)} {p : PS}, (∀ w ∈ ws, StOk m (aftM m f w)) → (done ++ ws).Pairwise (fun u v => lessM u v = true) → FI m f p0 done A p → ∃ A', FI m f p0 (done ++ ws) A' (ws.foldl (visitM m f) p)
  | [], done, A, p, _, _, h => ⟨A, by simpa using h⟩
  | w :: ws, done, A, p, hs, hp, h => by
    have hsort : ∀ u ∈ done, lessM u w = true := fun u hu => (List.pairwise_append.1 hp).2.2 u hu w (List.mem_cons_self ..)
    obtain ⟨A', h'⟩ := h.visit (hs w (List.mem_cons_self ..)) hsort
    have := FI.fold ws (fun u hu => hs u (List.mem_cons_of_mem _ hu)) (by simpa using hp) h'
    simpa using this

structure BI (m : M) (f j : Nat) (p : PS) : Prop where
  ll : p.l.length = m.rows.length
  il : p.is.length = m.rows.length
  ws : ∀ w ∈ p.more, Wok m w ∧ w.length = j
  sorted : p.more.Pairwise (fun u v => lessM u v = true)
  acc : ∀ s, s < m.rows.length → p.is.getD s false = true → Wok m (p.l.getD s []) ∧ aftM m f (p.l.getD s []) = s ∧ (p.l.getD s []).length < j ∧ ∀ w, Wok m w → aftM m f w = s → lessM w (p.l.getD s []) = false
  short : ∀ w, Wok m w → w.length < j → 0 ≤ aftM m f w → p.is.getD (aftM m f w).toNat false = true
  here : ∀ w, Wok m w → w.length = j → 0 ≤ aftM m f w → p.is.getD (aftM m f w).toNat false = true ∨ ∃ w' ∈ p.more, aftM m f w' = aftM m f w ∧ lessM w w' = false

theorem snoc_of_len {w : List Nat} {j : Nat} (h : w.length = j + 1) : ∃ u i, w = u ++ [i] ∧ u.length = j := by
  refine ⟨w.dropLast, w.getLast (by intro e; rw [e] at h; simp at h), (List.dropLast_concat_getLast _).symm, by simp [h]⟩

theorem childs_mem {w v : List Nat} {n : Nat} : v ∈ childs w n ↔ ∃ i, i < n ∧ v = w ++ [i] := by
  unfold childs
  simp only [List.mem_map, List.mem_range]
  constructor
  · rintro ⟨i, h, rfl⟩; exact ⟨i, h, rfl⟩
  · rintro ⟨i, h, rfl⟩; exact ⟨i, h, rfl⟩

theorem childs_sorted (w : List Nat) (n : Nat) : (childs w n).Pairwise (fun u v => lessM u v = true) := by
  unfold childs
  rw [List.pairwise_map]
  refine List.Pairwise.imp ?_ List.pairwise_lt_range
  intro a b hab
  rw [less_iff]
  refine .inr ⟨by simp, ?_⟩
  rw [lex_same, lexM, if_neg (by omega)]
  exact decide_eq_true hab

theorem flat_sorted {j n : Nat} : ∀ {A : List (List Nat)}, (∀ w ∈ A, w.length = j) → A.Pairwise (fun u v => lessM u v = true) → (A.flatMap fun w => childs w n).Pairwise (fun u v => lessM u v = true)
  | [], _, _ => by simp
  | w :: A, hl, hp => by
    rw [List.flatMap_cons, List.pairwise_append]
    have hp' := List.pairwise_cons.1 hp
    refine ⟨childs_sorted w n, flat_sorted (fun u hu => hl u (List.mem_cons_of_mem _ hu)) hp'.2, fun u hu v hv => ?_⟩
    obtain ⟨i, _, rfl⟩ := childs_mem.1 hu
    obtain ⟨w', hw', hv⟩ := List.mem_flatMap.1 hv
    obtain ⟨i', _, rfl⟩ := childs_mem.1 hv
    have h1 := hp'.1 w' hw'
    have l1 := hl w (List.mem_cons_self ..)
    have l2 := hl w' (List.mem_cons_of_mem _ hw')
    rw [less_iff] at h1 ⊢
    rcases h1 with h1 | h1
    · omega
    · exact .inr ⟨by simp; omega, lex_app _ _ h1.1 h1.2⟩

theorem BI.step {m : M} (hv : Valid m) {f j : Nat} (hf : f < m.rows.length) {p : PS} (h : BI m f j p) : BI m f (j + 1) (foldM m f ⟨p.l, p.is, []⟩ p.more) := by
  obtain ⟨ll, il, ws, sorted, acc, short, here⟩ := h
  have hst : ∀ {w}, Wok m w → StOk m (aftM m f w) := fun hw => aftOk hv (.inr ⟨by omega, by omega⟩) hw
  obtain ⟨A, fi⟩ := FI.fold (p0 := ⟨p.l, p.is, []⟩) (f := f) (done := []) (A := []) (p := ⟨p.l, p.is, []⟩) p.more (fun w hw => hst (ws w hw).1) (by simpa using sorted)
    ⟨ll, il, rfl, List.Sublist.refl _, fun w hw => by simp at hw, fun s _ h => ⟨h, rfl⟩, fun s _ h => .inl h, fun w hw => by simp at hw⟩
  rw [List.nil_append] at fi
  change FI m f ⟨p.l, p.is, []⟩ p.more A (foldM m f ⟨p.l, p.is, []⟩ p.more) at fi
  generalize foldM m f ⟨p.l, p.is, []⟩ p.more = q at fi
  obtain ⟨fll, fil, fmore, fsub, fmem, fkeep, fnew, fseen⟩ := fi
  have hlen : ∀ w ∈ A, w.length = j := fun w hw => (ws w (fsub.subset hw)).2
  have toN : ∀ {w}, Wok m w → 0 ≤ aftM m f w → (aftM m f w).toNat < m.rows.length := fun hw h0 => by
    rcases hst hw with e | e <;> omega
  have short' : ∀ w, Wok m w → w.length < j + 1 → 0 ≤ aftM m f w → q.is.getD (aftM m f w).toNat false = true := by
    intro w hw hl h0
    rcases Nat.lt_or_ge w.length j with hl' | hl'
    · exact (fkeep _ (toN hw h0) (short w hw hl' h0)).1
    · rcases here w hw (by omega) h0 with h | ⟨w', hw', e, _⟩
      · exact (fkeep _ (toN hw h0) h).1
      · have := fseen w' hw' (by omega)
        rwa [e] at this
  have acc' : ∀ s, s < m.rows.length → q.is.getD s false = true → Wok m (q.l.getD s []) ∧ aftM m f (q.l.getD s []) = s ∧ (q.l.getD s []).length < j + 1 ∧ ∀ w, Wok m w → aftM m f w = s → lessM w (q.l.getD s []) = false := by
    intro s hs his
    rcases fnew s hs his with h0 | ⟨h1, h2, h3⟩
    · rw [(fkeep s hs h0).2]
      obtain ⟨a1, a2, a3, a4⟩ := acc s hs h0
      exact ⟨a1, a2, by simp only; omega, a4⟩
    · have hw := ws _ (fsub.subset h1)
      by_cases h0 : p.is.getD s false = true
      · rw [(fkeep s hs h0).2]
        obtain ⟨a1, a2, a3, a4⟩ := acc s hs h0
        exact ⟨a1, a2, by simp only; omega, a4⟩
      refine ⟨hw.1, h2, by omega, fun w hww hws => ?_⟩
      rcases Nat.lt_trichotomy w.length j with hl | hl | hl
      · have := short w hww hl (by omega)
        rw [hws] at this
        exact absurd this h0
      · rcases here w hww hl (by omega) with h | ⟨w', hw', e, hle⟩
        · rw [hws] at h
          exact absurd h h0
        · exact le_trans' (h3 w' hw' (by rw [e, hws])) hle
      · refine less_asymm ((less_iff _ _).2 (.inl (by omega)))
  refine ⟨fll, fil, ?_, ?_, acc', short', ?_⟩
  · intro w hw
    rw [fmore] at hw
    obtain ⟨u, hu, hw⟩ := List.mem_flatMap.1 hw
    obtain ⟨i, hi, rfl⟩ := childs_mem.1 hw
    refine ⟨Wok.app.2 ⟨(ws u (fsub.subset hu)).1, Wok.cons.2 ⟨hi, Wok.nil⟩⟩, by simp [hlen u hu]⟩
  · rw [fmore]
    exact flat_sorted hlen (sorted.sublist fsub)
  · intro w hw hl h0
    obtain ⟨u, i, rfl, hul⟩ := snoc_of_len hl
    have hw' := Wok.app.1 hw
    have hi := (Wok.cons.1 hw'.2).1
    have e1 : aftM m f (u ++ [i]) = (nextM m (aftM m f u) i).1 := by rw [aft_app]; rfl
    have hu0 : 0 ≤ aftM m f u := by
      rcases Int.lt_or_le (aftM m f u) 0 with h | h
      · rw [e1, next_neg m h] at h0; simp at h0
      · exact h
    have hun := toN hw'.1 hu0
    have hu' := short' u hw'.1 (by omega) hu0
    obtain ⟨a1, a2, a3, a4⟩ := acc' _ hun hu'
    rw [Int.toNat_of_nonneg hu0] at a2
    generalize ha : q.l.getD (aftM m f u).toNat [] = a at *
    have e2 : aftM m f (a ++ [i]) = aftM m f (u ++ [i]) := by rw [aft_app, aft_app, a2]
    have hle : lessM u a = false := a4 u hw'.1 (by omega)
    rcases Nat.lt_or_ge a.length j with hal | hal
    · left
      have := short' (a ++ [i]) (Wok.app.2 ⟨a1, hw'.2⟩) (by simp; omega) (by omega)
      rwa [e2] at this
    · right
      refine ⟨a ++ [i], ?_, e2, le_snoc i hle⟩
      rw [fmore]
      refine List.mem_flatMap.2 ⟨a, ?_, childs_mem.2 ⟨i, hi, rfl⟩⟩
      rcases fnew _ hun hu' with h | h
      · exfalso
        obtain ⟨b1, b2, b3, b4⟩ := acc _ hun h
        have := (fkeep _ hun h).2
        rw [ha] at this
        simp only at this
        rw [← this] at b3
        omega
      · rw [ha] at h; exact h.1

theorem bi_lev {m : M} (hv : Valid m) {f : Nat} (hf : f < m.rows.length) : ∀ j, BI m f j (lev m f j)
  | 0 => by
    refine ⟨by simp [lev], by simp [lev], fun w hw => ?_, by simp [lev], fun s hs h => ?_, fun w _ h => by omega, fun w hw hl h0 => ?_⟩
    · simp [lev] at hw; subst hw; exact ⟨Wok.nil, rfl⟩
    · simp [lev, hs] at h
    · right
      have : w = [] := List.length_eq_zero_iff.1 hl
      subst this
      exact ⟨[], by simp [lev], rfl, less_irrefl _⟩
  | j + 1 => (bi_lev hv hf j).step hv hf

/-- Access words: the least words that lead to the states that are reached. -/
structure Acc (m : M) (f : Nat) (l : List (List Nat)) (is : List Bool) : Prop where
  ll : l.length = m.rows.length
  il : is.length = m.rows.length
  ok : ∀ s, s < m.rows.length → is.getD s false = true → Wok m (l.getD s []) ∧ aftM m f (l.getD s []) = s ∧ ∀ w, Wok m w → aftM m f w = s → lessM w (l.getD s []) = false
  all : ∀ w, Wok m w → 0 ≤ aftM m f w → is.getD (aftM m f w).toNat false = true

theorem acc_lev {m : M} (hv : Valid m) {f : Nat} (hf : f < m.rows.length) {j : Nat} (hj : (lev m f j).more = []) : Acc m f (lev m f j).l (lev m f j).is := by
  obtain ⟨ll, il, ws, sorted, acc, short, here⟩ := bi_lev hv hf j
  refine ⟨ll, il, fun s hs h => ?_, ?_⟩
  · obtain ⟨a1, a2, a3, a4⟩ := acc s hs h; exact ⟨a1, a2, a4⟩
  · have hst : ∀ {w}, Wok m w → StOk m (aftM m f w) := fun hw => aftOk hv (.inr ⟨by omega, by omega⟩) hw
    have le : ∀ w, Wok m w → w.length ≤ j → 0 ≤ aftM m f w → (lev m f j).is.getD (aftM m f w).toNat false = true := by
      intro w hw hl h0
      rcases Nat.lt_or_ge w.length j with h | h
      · exact short w hw h h0
      · rcases here w hw (by omega) h0 with h | ⟨w', hw', _⟩
        · exact h
        · rw [hj] at hw'; cases hw'
    have key : ∀ n, ∀ w, w.length = n → Wok m w → 0 ≤ aftM m f w → (lev m f j).is.getD (aftM m f w).toNat false = true := by
      intro n
      induction n with
      | zero => intro w hl hw h0; exact le w hw (by omega) h0
      | succ n ih =>
        intro w hl hw h0
        obtain ⟨u, i, rfl, hul⟩ := snoc_of_len hl
        have hw' := Wok.app.1 hw
        have e1 : aftM m f (u ++ [i]) = (nextM m (aftM m f u) i).1 := by rw [aft_app]; rfl
        have hu0 : 0 ≤ aftM m f u := by
          rcases Int.lt_or_le (aftM m f u) 0 with h | h
          · rw [e1, next_neg m h] at h0; simp at h0
          · exact h
        have hun : (aftM m f u).toNat < m.rows.length := by rcases hst hw'.1 with e | e <;> omega
        obtain ⟨a1, a2, a3, a4⟩ := acc _ hun (ih u hul hw'.1 hu0)
        rw [Int.toNat_of_nonneg hu0] at a2
        have e2 : aftM m f ((lev m f j).l.getD (aftM m f u).toNat [] ++ [i]) = aftM m f (u ++ [i]) := by rw [aft_app, aft_app, a2]
        have := le _ (Wok.app.2 ⟨a1, hw'.2⟩) (by simp only [List.length_append, List.length_singleton]; omega) (by rw [e2]; exact h0)
        rwa [e2] at this
    exact fun w hw h0 => key _ w rfl hw h0
end Go.Eng.E3

namespace Go.Eng.E3
open Go Go.Eng
set_option linter.unusedSimpArgs false
set_option linter.unusedVariables false

/-! ### Classes -/

structure Eqr (mk : List (List Bool)) (n : Nat) : Prop where
  refl : ∀ s, s < n → mget mk s s = false
  symm : ∀ s t, s < n → t < n → mget mk s t = false → mget mk t s = false
  trans : ∀ s t u, s < n → t < n → u < n → mget mk s t = false → mget mk t u = false → mget mk s u = false

theorem lastB_spec {mk : List (List Bool)} {s : Nat} {out : List Int} : ∀ n, (∃ t, t < n ∧ mget mk s t = false ∧ lastB mk s out n = out.getD t 0) ∨ ((∀ t, t < n → mget mk s t = true) ∧ lastB mk s out n = -1)
  | 0 => .inr ⟨fun t h => by omega, rfl⟩
  | n + 1 => by
    rw [lastB]
    cases h : mget mk s n with
    | false => exact .inl ⟨n, by omega, h, by simp⟩
    | true =>
      simp only [if_true]
      rcases lastB_spec (mk := mk) (s := s) (out := out) n with ⟨t, h1, h2, h3⟩ | ⟨h1, h2⟩
      · exact .inl ⟨t, by omega, h2, h3⟩
      · refine .inr ⟨fun t ht => ?_, h2⟩
        rcases Nat.lt_or_ge t n with h' | h'
        · exact h1 t h'
        · have : t = n := by omega
          subst this; exact h

structure PI (mk : List (List Bool)) (k : Nat) (p : List Int × Nat) : Prop where
  l : p.1.length = k
  r : ∀ s, s < k → 0 ≤ p.1.getD s 0 ∧ p.1.getD s 0 < p.2
  e : ∀ s t, s < k → t < k → (p.1.getD s 0 = p.1.getD t 0 ↔ mget mk s t = false)

theorem getD_snoc_lt {α : Type} {l : List α} {x d : α} {i : Nat} (h : i < l.length) : (l ++ [x]).getD i d = l.getD i d := by simp [List.getElem?_append_left h]
theorem getD_snoc_eq {α : Type} {l : List α} {x d : α} {i : Nat} (h : i = l.length) : (l ++ [x]).getD i d = x := by subst h; simp

theorem partN_spec {mk : List (List Bool)} {n : Nat} (eq : Eqr mk n) : ∀ k, k ≤ n → PI mk k (partN mk k)
  | 0, _ => ⟨rfl, fun s h => by omega, fun s t h => by omega⟩
  | k + 1, hk => by
    obtain ⟨hl, hr, he⟩ := partN_spec eq k (by omega)
    have hkn : k < n := by omega
    rw [partN, partStep]
    generalize partN mk k = p at *
    -- the class of the new one
    have fin : ∀ (c : Int) (c2 : Nat), (0 ≤ c ∧ c < c2) → p.2 ≤ c2 → (∀ s, s < k → (p.1.getD s 0 = c ↔ mget mk s k = false)) → PI mk (k + 1) (p.1 ++ [c], c2) := by
      intro c c2 hc hc2 hs
      refine ⟨by simp [hl], fun s h => ?_, fun s t h1 h2 => ?_⟩
      · simp only
        rcases Nat.lt_or_ge s k with h' | h'
        · rw [getD_snoc_lt (by omega)]; have := hr s h'; omega
        · rw [getD_snoc_eq (by omega)]; exact hc
      · simp only
        rcases Nat.lt_or_ge s k with h1' | h1' <;> rcases Nat.lt_or_ge t k with h2' | h2'
        · rw [getD_snoc_lt (by omega), getD_snoc_lt (by omega)]; exact he s t h1' h2'
        · rw [getD_snoc_lt (by omega), getD_snoc_eq (by omega)]
          have : t = k := by omega
          subst this; exact hs s h1'
        · rw [getD_snoc_eq (by omega), getD_snoc_lt (by omega)]
          have : s = k := by omega
          subst this
          constructor
          · intro e; exact eq.symm _ _ (by omega) (by omega) ((hs t h2').1 e.symm)
          · intro e; exact ((hs t h2').2 (eq.symm _ _ (by omega) (by omega) e)).symm
        · have e1 : s = k := by omega
          have e2 : t = k := by omega
          rw [getD_snoc_eq (by omega), getD_snoc_eq (by omega), e1, e2]
          exact ⟨fun _ => eq.refl k hkn, fun _ => rfl⟩
    rcases lastB_spec (mk := mk) (s := k) (out := p.1) k with ⟨t, h1, h2, h3⟩ | ⟨h1, h2⟩
    · have hrt := hr t h1
      rw [if_neg (by omega), h3]
      refine fin _ _ hrt (Nat.le_refl _) fun s hs => ?_
      rw [he s t hs h1]
      constructor
      · intro e; exact eq.trans s t k (by omega) (by omega) hkn e (eq.symm _ _ hkn (by omega) h2)
      · intro e; exact eq.trans s k t (by omega) hkn (by omega) e h2
    · rw [if_pos (by omega)]
      refine fin _ _ ⟨by omega, by omega⟩ (by omega) fun s hs => ?_
      have := hr s hs
      constructor
      · intro e; omega
      · intro e
        have := h1 s hs
        rw [eq.symm s k (by omega) hkn e] at this
        cases this

theorem eqr_mark {m : M} (hv : Valid m) : Eqr (markN m m.rows.length) m.rows.length where
  refl s hs := (unmarked_iff hv hs hs).2 (Eqv.refl m s)
  symm s t hs ht h := (unmarked_iff hv ht hs).2 (((unmarked_iff hv hs ht).1 h).symm rfl)
  trans s t u hs ht hu h1 h2 := (unmarked_iff hv hs hu).2 (((unmarked_iff hv hs ht).1 h1).trans rfl ((unmarked_iff hv ht hu).1 h2))

def classM (m : M) (s : Int) : Int := (partM' m m.rows.length).getD s.toNat 0

theorem class_len {m : M} (hv : Valid m) : (partM' m m.rows.length).length = m.rows.length := (partN_spec (eqr_mark hv) _ (Nat.le_refl _)).l

theorem class_iff {m : M} (hv : Valid m) {s t : Int} (hs : 0 ≤ s ∧ s < m.rows.length) (ht : 0 ≤ t ∧ t < m.rows.length) : classM m s = classM m t ↔ Eqv m m s t := by
  obtain ⟨s, rfl⟩ := Int.eq_ofNat_of_zero_le hs.1
  obtain ⟨t, rfl⟩ := Int.eq_ofNat_of_zero_le ht.1
  have h1 : s < m.rows.length := by omega
  have h2 : t < m.rows.length := by omega
  unfold classM
  simp only [Int.toNat_natCast]
  rw [← unmarked_iff hv h1 h2]
  exact (partN_spec (eqr_mark hv) _ (Nat.le_refl _)).e s t h1 h2

/-! ### Order -/

theorem ins_sorted {l : List (List Nat)} {s : Nat} : ∀ {out : List Int}, out.Pairwise (fun a b => lessM (wordOf l a) (wordOf l b) = true) → (∀ o ∈ out, wordOf l o ≠ wordOf l s) → (insM l out s).Pairwise (fun a b => lessM (wordOf l a) (wordOf l b) = true)
  | [], _, _ => by simp [insM]
  | o :: out, hp, hne => by
    have hp' := List.pairwise_cons.1 hp
    unfold insM
    rw [List.takeWhile_cons, List.dropWhile_cons]
    cases hb : before l s o with
    | true =>
      simp only [if_true]
      have ih := ins_sorted (l := l) (s := s) hp'.2 (fun o ho => hne o (List.mem_cons_of_mem _ ho))
      unfold insM at ih
      rw [List.cons_append, List.cons_append, List.pairwise_cons]
      refine ⟨fun x hx => ?_, ih⟩
      rcases List.mem_append.1 hx with hx | hx
      · rcases List.mem_append.1 hx with hx | hx
        · exact hp'.1 x (List.takeWhile_subset _ hx)
        · simp at hx; subst hx; exact hb
      · exact hp'.1 x (List.dropWhile_subset _ hx)
    | false =>
      simp only [Bool.false_eq_true, if_false, List.nil_append, List.singleton_append]
      have hso : lessM (wordOf l s) (wordOf l o) = true := by
        rcases less_total (wordOf l s) (wordOf l o) with e | e | e
        · exact absurd e.symm (hne o (List.mem_cons_self ..))
        · exact e
        · unfold before at hb; rw [e] at hb; cases hb
      rw [List.pairwise_cons]
      refine ⟨fun x hx => ?_, hp⟩
      rcases List.mem_cons.1 hx with rfl | hx
      · exact hso
      · exact less_trans hso (hp'.1 x hx)

theorem insMemIff {l : List (List Nat)} {s : Nat} {out : List Int} {x : Int} : x ∈ insM l out s ↔ x = s ∨ x ∈ out := by
  unfold insM
  have h : x ∈ out ↔ x ∈ out.takeWhile (before l s) ∨ x ∈ out.dropWhile (before l s) := by
    rw [← List.mem_append, List.takeWhile_append_dropWhile]
  rw [h]
  simp only [List.mem_append, List.mem_singleton]
  constructor
  · rintro ((h | h) | h); exact .inr (.inl h); exact .inl h; exact .inr (.inr h)
  · rintro (h | h | h); exact .inl (.inr h); exact .inl (.inl h); exact .inr h

theorem ord_succ (l : List (List Nat)) (is : List Bool) (s : Nat) : ordN l is (s + 1) = ordStep l is (ordN l is s) s := by simp [ordN, List.range_succ]

theorem ord_mem {l : List (List Nat)} {is : List Bool} {x : Int} : ∀ k, x ∈ ordN l is k ↔ ∃ s, s < k ∧ is.getD s false = true ∧ x = (s : Nat)
  | 0 => by simp [ordN]
  | k + 1 => by
    rw [ord_succ, ordStep]
    cases h : is.getD k false with
    | true =>
      rw [if_pos rfl, insMemIff, ord_mem k]
      constructor
      · rintro (rfl | ⟨s, h1, h2, h3⟩)
        · exact ⟨k, by omega, h, rfl⟩
        · exact ⟨s, by omega, h2, h3⟩
      · rintro ⟨s, h1, h2, h3⟩
        rcases Nat.lt_or_ge s k with h' | h'
        · exact .inr ⟨s, h', h2, h3⟩
        · have : s = k := by omega
          subst this; exact .inl h3
    | false =>
      rw [if_neg (by simp), ord_mem k]
      constructor
      · rintro ⟨s, h1, h2, h3⟩; exact ⟨s, by omega, h2, h3⟩
      · rintro ⟨s, h1, h2, h3⟩
        rcases Nat.lt_or_ge s k with h' | h'
        · exact ⟨s, h', h2, h3⟩
        · have : s = k := by omega
          subst this; rw [h] at h2; cases h2

theorem ord_sorted {m : M} {f : Nat} {l : List (List Nat)} {is : List Bool} (ac : Acc m f l is) : ∀ k, k ≤ m.rows.length → (ordN l is k).Pairwise (fun a b => lessM (wordOf l a) (wordOf l b) = true)
  | 0, _ => by simp [ordN]
  | k + 1, hk => by
    have ih := ord_sorted ac k (by omega)
    rw [ord_succ, ordStep]
    cases h : is.getD k false with
    | false => rw [if_neg (by simp)]; exact ih
    | true =>
      rw [if_pos rfl]
      refine ins_sorted ih fun o ho e => ?_
      obtain ⟨s, h1, h2, rfl⟩ := (ord_mem k).1 ho
      have a1 := (ac.ok s (by omega) h2).2.1
      have a2 := (ac.ok k (by omega) h).2.1
      unfold wordOf at e
      simp only [Int.toNat_natCast] at e
      rw [e, a2] at a1
      omega

/-! ### The states that stay -/

theorem there_iff {p l : List Int} {k : Nat} : ∀ n, thereM p l k n = true ↔ ∃ i, i < n ∧ clOf p l i = clOf p l k
  | 0 => by simp [thereM]
  | n + 1 => by
    rw [thereM, Bool.or_eq_true, there_iff n, decide_eq_true_eq]
    constructor
    · rintro (⟨i, h1, h2⟩ | h)
      · exact ⟨i, by omega, h2⟩
      · exact ⟨n, by omega, h⟩
    · rintro ⟨i, h1, h2⟩
      rcases Nat.lt_or_ge i n with h | h
      · exact .inl ⟨i, h, h2⟩
      · have : i = n := by omega
        subst this; exact .inr h2

theorem first_mem_iff {p l : List Int} {x : Int} : ∀ k, x ∈ firstN p l k ↔ ∃ i, i < k ∧ l.getD i 0 = x ∧ ∀ i', i' < i → clOf p l i' ≠ clOf p l i
  | 0 => by simp [firstN]
  | k + 1 => by
    rw [firstN]
    cases h : thereM p l k k with
    | true =>
      rw [if_pos rfl, first_mem_iff k]
      constructor
      · rintro ⟨i, h1, h2, h3⟩; exact ⟨i, by omega, h2, h3⟩
      · rintro ⟨i, h1, h2, h3⟩
        rcases Nat.lt_or_ge i k with h' | h'
        · exact ⟨i, h', h2, h3⟩
        · have : i = k := by omega
          subst this
          obtain ⟨i', h4, h5⟩ := (there_iff i).1 h
          exact absurd h5 (h3 i' h4)
    | false =>
      rw [if_neg (by simp), List.mem_append, first_mem_iff k, List.mem_singleton]
      have hn : ∀ i', i' < k → clOf p l i' ≠ clOf p l k := fun i' hi e => by
        have := (there_iff k).2 ⟨i', hi, e⟩
        rw [h] at this; cases this
      constructor
      · rintro (⟨i, h1, h2, h3⟩ | rfl)
        · exact ⟨i, by omega, h2, h3⟩
        · exact ⟨k, by omega, rfl, hn⟩
      · rintro ⟨i, h1, h2, h3⟩
        rcases Nat.lt_or_ge i k with h' | h'
        · exact .inl ⟨i, h', h2, h3⟩
        · have : i = k := by omega
          subst this; exact .inr h2.symm

theorem first_sub {p l : List Int} : ∀ k, k ≤ l.length → (firstN p l k).Sublist (l.take k)
  | 0, _ => by simp [firstN]
  | k + 1, hk => by
    have ih := first_sub (p := p) (l := l) k (by omega)
    have e : l.take (k + 1) = l.take k ++ [l.getD k 0] := by
      rw [List.take_succ_eq_append_getElem (by omega)]
      simp [show k < l.length by omega]
    rw [firstN, e]
    split
    · exact ih.trans (List.sublist_append_left _ _)
    · exact ih.append (List.Sublist.refl _)

/-- The least words of the classes that are reached. -/
def CW (m : M) (w : List Nat) : Prop := Wok m w ∧ 0 ≤ aftM m 0 w ∧ ∀ w', Wok m w' → lessM w' w = true → 0 ≤ aftM m 0 w' → ¬ Eqv m m (aftM m 0 w') (aftM m 0 w)

def leadW (m : M) (j : Nat) : List (List Nat) := (firstsM m j).map (wordOf (lev m 0 j).l)

section
variable {m : M} (hv : Valid m) {j : Nat} (hj : (lev m 0 j).more = [])
include hv hj

theorem accM : Acc m 0 (lev m 0 j).l (lev m 0 j).is := acc_lev hv (by have := hv.r1; omega) hj

theorem lead_sorted : (leadW m j).Pairwise (fun u v => lessM u v = true) := by
  unfold leadW
  rw [List.pairwise_map]
  have h := ord_sorted (accM hv hj) m.rows.length (Nat.le_refl _)
  unfold firstsM
  generalize ordN (lev m 0 j).l (lev m 0 j).is m.rows.length = l at h ⊢
  have hs := first_sub (p := partM' m m.rows.length) (l := l) l.length (Nat.le_refl _)
  rw [List.take_length] at hs
  exact h.sublist hs

theorem first_iff {x : Int} : x ∈ firstsM m j ↔ ∃ s : Nat, s < m.rows.length ∧ (lev m 0 j).is.getD s false = true ∧ x = s ∧ CW m ((lev m 0 j).l.getD s []) := by
  have ac := accM hv hj
  have hsort := ord_sorted ac m.rows.length (Nat.le_refl _)
  have hmem := fun x => ord_mem (l := (lev m 0 j).l) (is := (lev m 0 j).is) (x := x) m.rows.length
  unfold firstsM
  rw [first_mem_iff]
  generalize ordN (lev m 0 j).l (lev m 0 j).is m.rows.length = l at hsort hmem ⊢
  generalize (lev m 0 j).l = wl at *
  generalize (lev m 0 j).is = is at *
  have clO : ∀ i, clOf (partM' m m.rows.length) l i = classM m (l.getD i 0) := fun i => rfl
  have at_ : ∀ i, i < l.length → ∃ s : Nat, s < m.rows.length ∧ is.getD s false = true ∧ l.getD i 0 = (s : Nat) := fun i hi => by
    have : l.getD i 0 = l[i] := by simp [hi]
    rw [this]
    exact (hmem _).1 (List.getElem_mem hi)
  have lt_of : ∀ i i', i < l.length → i' < l.length → lessM (wordOf wl (l.getD i 0)) (wordOf wl (l.getD i' 0)) = true → i < i' := fun i i' hi hi' hl => by
    rcases Nat.lt_trichotomy i i' with h | h | h
    · exact h
    · subst h; rw [less_irrefl] at hl; cases hl
    · have := (List.pairwise_iff_getElem.1 hsort) i' i hi' hi h
      simp only [List.getD_eq_getElem?_getD, List.getElem?_eq_getElem hi, List.getElem?_eq_getElem hi', Option.getD_some] at hl
      rw [less_asymm this] at hl; cases hl
  constructor
  · rintro ⟨i, hi, hx, hn⟩
    obtain ⟨s, hs, his, e⟩ := at_ i hi
    refine ⟨s, hs, his, by rw [← hx, e], ?_⟩
    obtain ⟨a1, a2, a3⟩ := ac.ok s hs his
    rw [show ((0 : Nat) : Int) = 0 from rfl] at a2
    refine ⟨a1, by rw [a2]; omega, fun w' hw' hl h0 he => ?_⟩
    rw [a2] at he
    have hst : StOk m (aftM m 0 w') := aftOk hv (.inr ⟨by omega, by have := hv.r1; omega⟩) hw'
    obtain ⟨t, ht⟩ := Int.eq_ofNat_of_zero_le h0
    have htn : t < m.rows.length := by rcases hst with e | e <;> omega
    have hit := ac.all w' hw' h0
    rw [show ((0 : Nat) : Int) = 0 from rfl, ht] at hit
    simp only [Int.toNat_natCast] at hit
    obtain ⟨b1, b2, b3⟩ := ac.ok t htn hit
    have htl : ((t : Nat) : Int) ∈ l := (hmem _).2 ⟨t, htn, hit, rfl⟩
    obtain ⟨i', hi', e'⟩ := List.getElem_of_mem htl
    have e'' : l.getD i' 0 = (t : Nat) := by simp [hi', e']
    have hlt : i' < i := by
      refine lt_of i' i hi' hi ?_
      rw [e, e'']
      show lessM (wl.getD t []) (wl.getD s []) = true
      rcases le_of (b3 w' hw' ht) with h | h
      · rw [h]; exact hl
      · exact less_trans h hl
    refine hn i' hlt ?_
    rw [clO, clO, e, e'', class_iff hv ⟨by omega, by omega⟩ ⟨by omega, by omega⟩, ← ht]
    exact he
  · rintro ⟨s, hs, his, rfl, hc⟩
    obtain ⟨c1, c2, c3⟩ := hc
    obtain ⟨a1, a2, a3⟩ := ac.ok s hs his
    rw [show ((0 : Nat) : Int) = 0 from rfl] at a2
    obtain ⟨i, hi, e⟩ := List.getElem_of_mem ((hmem _).2 ⟨s, hs, his, rfl⟩)
    have e' : l.getD i 0 = (s : Nat) := by simp [hi, e]
    refine ⟨i, hi, e', fun i' hi' he => ?_⟩
    obtain ⟨t, ht, hit, et⟩ := at_ i' (by omega)
    obtain ⟨b1, b2, b3⟩ := ac.ok t ht hit
    rw [show ((0 : Nat) : Int) = 0 from rfl] at b2
    rw [clO, clO, e', et, class_iff hv ⟨by omega, by omega⟩ ⟨by omega, by omega⟩] at he
    refine c3 _ b1 ?_ (by rw [b2]; omega) (by rw [a2, b2]; exact he)
    have := (List.pairwise_iff_getElem.1 hsort) i' i (by omega) hi hi'
    simp only [List.getD_eq_getElem?_getD, List.getElem?_eq_getElem hi, List.getElem?_eq_getElem (show i' < l.length by omega), Option.getD_some] at e' et
    rw [e', et] at this
    exact this

theorem lead_iff {w : List Nat} : w ∈ leadW m j ↔ CW m w := by
  have ac := accM hv hj
  unfold leadW
  rw [List.mem_map]
  constructor
  · rintro ⟨x, hx, rfl⟩
    obtain ⟨s, _, _, rfl, hc⟩ := (first_iff hv hj).1 hx
    exact hc
  · intro hc
    obtain ⟨c1, c2, c3⟩ := id hc
    have hst : StOk m (aftM m 0 w) := aftOk hv (.inr ⟨by omega, by have := hv.r1; omega⟩) c1
    obtain ⟨t, ht⟩ := Int.eq_ofNat_of_zero_le c2
    have htn : t < m.rows.length := by rcases hst with e | e <;> omega
    have hit := ac.all w c1 c2
    rw [show ((0 : Nat) : Int) = 0 from rfl, ht] at hit
    simp only [Int.toNat_natCast] at hit
    obtain ⟨b1, b2, b3⟩ := ac.ok t htn hit
    rw [show ((0 : Nat) : Int) = 0 from rfl] at b2 b3
    have hw : (lev m 0 j).l.getD t [] = w := by
      rcases le_of (b3 w c1 ht) with h | h
      · exact h
      · exact absurd (by rw [b2, ht]; exact Eqv.refl m _) (c3 _ b1 h (by rw [b2]; omega))
    exact ⟨(t : Nat), (first_iff hv hj).2 ⟨t, htn, hit, rfl, by rw [hw]; exact hc⟩, hw⟩

theorem lead_aft {k : Nat} (hk : k < (firstsM m j).length) : aftM m 0 ((leadW m j).getD k []) = (firstsM m j).getD k 0 ∧ Wok m ((leadW m j).getD k []) ∧ 0 ≤ (firstsM m j).getD k 0 ∧ (firstsM m j).getD k 0 < m.rows.length := by
  have ac := accM hv hj
  have e : (firstsM m j).getD k 0 = (firstsM m j)[k] := by simp [hk]
  obtain ⟨s, hs, his, es, hc⟩ := (first_iff hv hj).1 (List.getElem_mem hk)
  have ew : (leadW m j).getD k [] = (lev m 0 j).l.getD s [] := by
    unfold leadW
    simp [hk, wordOf, es]
  obtain ⟨b1, b2, b3⟩ := ac.ok s hs his
  rw [e, ew, es]
  exact ⟨b2, b1, by omega, by omega⟩
end

theorem sorted_unique : ∀ {a b : List (List Nat)}, a.Pairwise (fun u v => lessM u v = true) → b.Pairwise (fun u v => lessM u v = true) → (∀ w, w ∈ a ↔ w ∈ b) → a = b
  | [], [], _, _, _ => rfl
  | [], w :: b, _, _, h => by have := (h w).2 (List.mem_cons_self ..); cases this
  | w :: a, [], _, _, h => by have := (h w).1 (List.mem_cons_self ..); cases this
  | u :: a, v :: b, ha, hb, h => by
    have ha' := List.pairwise_cons.1 ha
    have hb' := List.pairwise_cons.1 hb
    have e : u = v := by
      rcases List.mem_cons.1 ((h u).1 (List.mem_cons_self ..)) with e | e
      · exact e
      · rcases List.mem_cons.1 ((h v).2 (List.mem_cons_self ..)) with e' | e'
        · exact e'.symm
        · have h1 := hb'.1 u e
          have h2 := ha'.1 v e'
          have := less_trans h1 h2
          rw [less_irrefl] at this; cases this
    subst e
    congr 1
    refine sorted_unique ha'.2 hb'.2 fun w => ?_
    constructor
    · intro hw
      rcases List.mem_cons.1 ((h w).1 (List.mem_cons_of_mem _ hw)) with e | e
      · subst e; have := ha'.1 _ hw; rw [less_irrefl] at this; cases this
      · exact e
    · intro hw
      rcases List.mem_cons.1 ((h w).2 (List.mem_cons_of_mem _ hw)) with e | e
      · subst e; have := hb'.1 _ hw; rw [less_irrefl] at this; cases this
      · exact e

theorem CW.cross {a b : M} (ha : Valid a) (hb : Valid b) (hi : a.ins = b.ins) (h : Eqv a b 0 0) {w : List Nat} (hw : CW a w) : CW b w := by
  have s0a : StOk a 0 := .inr ⟨by omega, by have := ha.r1; omega⟩
  have s0b : StOk b 0 := .inr ⟨by omega, by have := hb.r1; omega⟩
  have wk : ∀ {w}, Wok b w → Wok a w := fun h => by unfold Wok at *; rw [hi]; exact h
  have wk' : ∀ {w}, Wok a w → Wok b w := fun h => by unfold Wok at *; rw [← hi]; exact h
  obtain ⟨c1, c2, c3⟩ := hw
  have sg : ∀ {w}, Wok a w → (aftM a 0 w < 0 ↔ aftM b 0 w < 0) := fun hw => h.sign ha hb hi s0a s0b Iff.rfl hw
  refine ⟨wk' c1, by have := sg c1; omega, fun w' hw' hl h0 he => ?_⟩
  refine c3 w' (wk hw') hl (by have := sg (wk hw'); omega) ?_
  have e1 := h.aft (wk hw')
  have e2 := h.aft c1
  exact (e1.trans hi he).trans hi (e2.symm hi)

theorem lead_eq {a b : M} (ha : Valid a) (hb : Valid b) (hi : a.ins = b.ins) (h : Eqv a b 0 0) {j j' : Nat} (hj : (lev a 0 j).more = []) (hj' : (lev b 0 j').more = []) : leadW a j = leadW b j' :=
  sorted_unique (lead_sorted ha hj) (lead_sorted hb hj') fun w => by
    rw [lead_iff ha hj, lead_iff hb hj']
    exact ⟨fun hc => hc.cross ha hb hi h, fun hc => hc.cross hb ha hi.symm (h.symm hi)⟩

/-! ### What is reached -/

def Closed (m : M) (o : List Bool) : Prop := ∀ s i, s < m.rows.length → i < m.ins → o.getD s false = true → 0 ≤ (edge m s i).1 → o.getD (edge m s i).1.toNat false = true

def LeB (a b : List Bool) : Prop := a.length = b.length ∧ ∀ s, a.getD s false = true → b.getD s false = true
theorem LeB.refl (a : List Bool) : LeB a a := ⟨rfl, fun _ h => h⟩
theorem LeB.trans {a b c : List Bool} (h : LeB a b) (h' : LeB b c) : LeB a c := ⟨h.1.trans h'.1, fun s hs => h'.2 s (h.2 s hs)⟩

theorem relax_le (m : M) (s : Nat) (o : List Bool) (i : Nat) : LeB o (relaxM m s o i) := by
  unfold relaxM
  split
  · refine ⟨by simp, fun t ht => ?_⟩
    by_cases h : (edge m s i).1.toNat = t
    · subst h
      by_cases hl : (edge m s i).1.toNat < o.length
      · exact getD_set_self hl _ _
      · simp [List.getD_eq_getElem?_getD, List.getElem?_eq_none (show o.length ≤ (edge m s i).1.toNat by omega)] at ht
    · rw [getD_set_ne h]; exact ht
  · exact LeB.refl o

theorem row_le (m : M) (s : Nat) (o : List Bool) : ∀ i, LeB o (rowRel m s o i)
  | 0 => by simp [rowRel, LeB.refl]
  | i + 1 => by rw [rowRel_succ]; exact (row_le m s o i).trans (relax_le m s _ i)
theorem round_le (m : M) (o : List Bool) : ∀ s, LeB o (roundRel m o s)
  | 0 => by simp [roundRel, LeB.refl]
  | s + 1 => by rw [roundRel_succ]; exact (round_le m o s).trans (row_le m s _ m.ins)

theorem leB_count : ∀ {a b : List Bool}, LeB a b → a = b ∨ a.count true < b.count true
  | [], [], _ => .inl rfl
  | x :: a, y :: b, h => by
    have h' : LeB a b := ⟨by have := h.1; simpa using this, fun s hs => by have := h.2 (s + 1); simpa using this (by simpa using hs)⟩
    have h0 : x = true → y = true := fun e => by have := h.2 0; simpa using this (by simpa using e)
    have le : a.count true ≤ b.count true := by rcases leB_count h' with e | e; rw [e]; exact Nat.le_refl _; omega
    cases x with
    | true =>
      rw [h0 rfl]
      rcases leB_count h' with e | e
      · exact .inl (by rw [e])
      · right; simp; omega
    | false =>
      cases y with
      | true => right; simp; omega
      | false =>
        rcases leB_count h' with e | e
        · exact .inl (by rw [e])
        · right; simpa using e
  | [], _ :: _, h => by have := h.1; simp at this
  | _ :: _, [], h => by have := h.1; simp at this

theorem LeB.antisymm {a b : List Bool} (h : LeB a b) (h' : LeB b a) : a = b := by
  rcases leB_count h with e | e
  · exact e
  · rcases leB_count h' with e' | e'
    · exact e'.symm
    · omega

/-- If a round changes nothing then nothing is left to reach. -/
theorem closed_of_stable {m : M} (hv : Valid m) {o : List Bool} (hl : o.length = m.rows.length) (h : roundRel m o m.rows.length = o) : Closed m o := by
  intro s i hs hi hos h0
  -- up to s nothing changes
  have e1 : ∀ d s, s + d = m.rows.length → roundRel m o s = o := by
    intro d
    induction d with
    | zero => intro s hsd; rw [show s = m.rows.length by omega]; exact h
    | succ d ih =>
      intro s hsd
      have h1 := ih (s + 1) (by omega)
      rw [roundRel_succ] at h1
      have h2 := row_le m s (roundRel m o s) m.ins
      rw [h1] at h2
      exact (LeB.antisymm (round_le m o s) h2).symm
  have e2 := e1 (m.rows.length - (s + 1)) (s + 1) (by omega)
  rw [roundRel_succ, e1 (m.rows.length - s) s (by omega)] at e2
  have e3 : ∀ d i, i + d = m.ins → rowRel m s o i = o := by
    intro d
    induction d with
    | zero => intro i hid; rw [show i = m.ins by omega]; exact e2
    | succ d ih =>
      intro i hid
      have h1 := ih (i + 1) (by omega)
      rw [rowRel_succ] at h1
      have h2 := relax_le m s (rowRel m s o i) i
      rw [h1] at h2
      exact (LeB.antisymm (row_le m s o i) h2).symm
  have e4 := e3 (m.ins - (i + 1)) (i + 1) (by omega)
  rw [rowRel_succ, e3 (m.ins - i) i (by omega)] at e4
  unfold relaxM at e4
  rw [hos, decide_eq_true h0] at e4
  simp only [Bool.and_true, if_true] at e4
  rw [← e4]
  have e5 := (edge_ok hv hs hi).st
  exact getD_set_self (by rcases e5 with e | e <;> omega) _ _

theorem reachN_le (m : M) (o : List Bool) : ∀ k, LeB o (reachN m o k)
  | 0 => by simp [reachN, LeB.refl]
  | k + 1 => by rw [reachN_succ]; exact (reachN_le m o k).trans (round_le m _ _)

theorem closed_reachN {m : M} (hv : Valid m) {o : List Bool} (hl : o.length = m.rows.length) (hc : 0 < o.count true) : Closed m (reachN m o m.rows.length) := by
  have key : ∀ k, roundRel m (reachN m o k) m.rows.length = reachN m o k ∨ k + 1 ≤ (reachN m o k).count true := by
    intro k
    induction k with
    | zero => right; simpa [reachN] using hc
    | succ k ih =>
      rw [reachN_succ]
      rcases ih with e | e
      · left; rw [e, e]
      · rcases leB_count (round_le m (reachN m o k) m.rows.length) with e' | e'
        · left; rw [← e', ← e']
        · right; omega
  rcases key m.rows.length with e | e
  · exact closed_of_stable hv ((reachN_le m o _).1.symm.trans hl) e
  · have := List.count_le_length (a := true) (l := reachN m o m.rows.length)
    have h1 := (reachN_le m o m.rows.length).1
    omega

theorem reach_all {m : M} (hv : Valid m) {f : Nat} (hf : f < m.rows.length) : ∀ {w : List Nat} {s : Int}, Wok m w → 0 ≤ s → s < m.rows.length → (reachM m f).getD s.toNat false = true → 0 ≤ aftM m s w → (reachM m f).getD (aftM m s w).toNat false = true
  | [], s, _, _, _, h, _ => h
  | i :: w, s, hw, h1, h2, h, h0 => by
    have hw' := Wok.cons.1 hw
    obtain ⟨n, rfl⟩ := Int.eq_ofNat_of_zero_le h1
    have hn : n < m.rows.length := by omega
    rw [aftM, nextM_nat] at h0 ⊢
    have e1 := (edge_ok hv hn hw'.1).st
    have h3 : 0 ≤ (edge m n i).1 := by
      rcases Int.lt_or_le (edge m n i).1 0 with h | h
      · have := aft_neg (m := m) w h; omega
      · exact h
    have hcl : Closed m (reachM m f) := closed_reachN hv (by simp) (by
      rw [List.count_set (by simpa using hf)]; simp)
    exact reach_all hv hf hw'.2 h3 (by rcases e1 with e | e <;> omega) (hcl n i hn hw'.1 (by simpa using h) h3) h0

theorem reach_word {m : M} (hv : Valid m) {w : List Nat} (hw : Wok m w) (h0 : 0 ≤ aftM m 0 w) : (reachM m 0).getD (aftM m 0 w).toNat false = true := by
  have r1 := hv.r1
  refine reach_all hv (by omega) hw (by omega) (by omega) ?_ h0
  have := (reachN_le m ((List.replicate m.rows.length false).set 0 true) m.rows.length).2 0 (getD_set_self (by simp; omega) _ _)
  exact this
end Go.Eng.E3

namespace Go.Eng.E3
open Go Go.Eng
set_option linter.unusedSimpArgs false
set_option linter.unusedVariables false

/-! ### The minimal form -/

theorem lastK_spec {p l : List Int} {is : List Bool} {s : Nat} : ∀ n, (∃ i, i < n ∧ is.getD s false = true ∧ clOf p l i = p.getD s 0 ∧ lastK p l is s n = (i : Nat)) ∨ ∀ i, i < n → ¬ (is.getD s false = true ∧ clOf p l i = p.getD s 0)
  | 0 => .inr fun i h => by omega
  | n + 1 => by
    rw [lastK]
    by_cases h : is.getD s false = true ∧ clOf p l n = p.getD s 0
    · refine .inl ⟨n, by omega, h.1, h.2, ?_⟩
      rw [h.1, h.2]; simp
    · have h' : (is.getD s false && decide (clOf p l n = p.getD s 0)) = false := by
        rw [Bool.eq_false_iff]; intro e
        simp only [Bool.and_eq_true, decide_eq_true_eq] at e
        exact h e
      rw [h']
      simp only [Bool.false_eq_true, if_false]
      rcases lastK_spec (p := p) (l := l) (is := is) (s := s) n with ⟨i, h1, h2, h3, h4⟩ | hn
      · exact .inl ⟨i, by omega, h2, h3, h4⟩
      · refine .inr fun i hi e => ?_
        rcases Nat.lt_or_ge i n with h' | h'
        · exact hn i h' e
        · have : i = n := by omega
          subst this; exact h e

def toM (m : M) (j : Nat) : List Int := mapN (partM' m m.rows.length) (firstsM m j) (reachM m 0) m.rows.length

section
variable {m : M} (hv : Valid m) {j : Nat} (hj : (lev m 0 j).more = [])
include hv hj

theorem lead_len : (leadW m j).length = (firstsM m j).length := by simp [leadW]

theorem first_uniq {k k' : Nat} (hk : k < (firstsM m j).length) (hk' : k' < (firstsM m j).length) (h : Eqv m m ((firstsM m j).getD k 0) ((firstsM m j).getD k' 0)) : k = k' := by
  have hl := lead_len hv hj
  have main : ∀ k k', k < (firstsM m j).length → k' < (firstsM m j).length → k < k' → ¬ Eqv m m ((firstsM m j).getD k 0) ((firstsM m j).getD k' 0) := by
    intro k k' hk hk' hlt h
    have h1 := (List.pairwise_iff_getElem.1 (lead_sorted hv hj)) k k' (by omega) (by omega) hlt
    have c' : CW m ((leadW m j)[k']'(by omega)) := (lead_iff hv hj).1 (List.getElem_mem _)
    obtain ⟨a1, a2, a3, a4⟩ := lead_aft hv hj hk
    obtain ⟨b1, b2, b3, b4⟩ := lead_aft hv hj hk'
    have e1 : (leadW m j).getD k [] = (leadW m j)[k]'(by omega) := by simp [show k < (leadW m j).length by omega]
    have e2 : (leadW m j).getD k' [] = (leadW m j)[k']'(by omega) := by simp [show k' < (leadW m j).length by omega]
    rw [e1] at a1 a2
    rw [e2] at b1 b2
    exact c'.2.2 _ a2 h1 (by rw [a1]; exact a3) (by rw [a1, b1]; exact h)
  rcases Nat.lt_trichotomy k k' with e | e | e
  · exact absurd h (main k k' hk hk' e)
  · exact e
  · exact absurd (h.symm rfl) (main k' k hk' hk e)

theorem first_cover {w : List Nat} (hw : Wok m w) (h0 : 0 ≤ aftM m 0 w) : ∃ k, k < (firstsM m j).length ∧ Eqv m m ((firstsM m j).getD k 0) (aftM m 0 w) := by
  have ac := accM hv hj
  have hst : StOk m (aftM m 0 w) := aftOk hv (.inr ⟨by omega, by have := hv.r1; omega⟩) hw
  obtain ⟨t, ht⟩ := Int.eq_ofNat_of_zero_le h0
  have htn : t < m.rows.length := by rcases hst with e | e <;> omega
  have hit := ac.all w hw h0
  rw [show ((0 : Nat) : Int) = 0 from rfl, ht] at hit
  simp only [Int.toNat_natCast] at hit
  have hmem := fun x => ord_mem (l := (lev m 0 j).l) (is := (lev m 0 j).is) (x := x) m.rows.length
  have hf := fun x => first_mem_iff (p := partM' m m.rows.length) (l := ordN (lev m 0 j).l (lev m 0 j).is m.rows.length) (x := x) (ordN (lev m 0 j).l (lev m 0 j).is m.rows.length).length
  have hfm : ∀ x, x ∈ firstsM m j ↔ _ := hf
  generalize ordN (lev m 0 j).l (lev m 0 j).is m.rows.length = l at hmem hfm
  obtain ⟨i, hi, e⟩ := List.getElem_of_mem ((hmem _).2 ⟨t, htn, hit, rfl⟩)
  have e' : l.getD i 0 = (t : Nat) := by simp [hi, e]
  obtain ⟨i', h1, h2, h3⟩ := exists_least (P := fun i' => clOf (partM' m m.rows.length) l i' = clOf (partM' m m.rows.length) l i) (n := i) rfl
  have hx : l.getD i' 0 ∈ firstsM m j := (hfm _).2 ⟨i', by omega, rfl, fun i'' hi'' e => h3 i'' hi'' (e.trans h2)⟩
  obtain ⟨s, hs, his, es⟩ := (hmem (l.getD i' 0)).1 (by
    have : l.getD i' 0 = l[i']'(by omega) := by simp [show i' < l.length by omega]
    rw [this]; exact List.getElem_mem _)
  obtain ⟨k, hk, ek⟩ := List.getElem_of_mem hx
  refine ⟨k, hk, ?_⟩
  have ek' : (firstsM m j).getD k 0 = (s : Nat) := by rw [← es, ← ek]; simp [hk]
  rw [ek', ht, ← class_iff hv ⟨by omega, by omega⟩ ⟨by omega, by omega⟩]
  have c1 : clOf (partM' m m.rows.length) l i' = classM m (l.getD i' 0) := rfl
  have c2 : clOf (partM' m m.rows.length) l i = classM m (l.getD i 0) := rfl
  rw [c1, c2, es, e'] at h2
  exact h2

theorem to_spec {w : List Nat} (hw : Wok m w) (h0 : 0 ≤ aftM m 0 w) : ∃ k, k < (firstsM m j).length ∧ (toM m j).getD (aftM m 0 w).toNat 0 = (k : Nat) ∧ Eqv m m ((firstsM m j).getD k 0) (aftM m 0 w) := by
  have hst : StOk m (aftM m 0 w) := aftOk hv (.inr ⟨by omega, by have := hv.r1; omega⟩) hw
  have hr := reach_word hv hw h0
  obtain ⟨k, hk, he⟩ := first_cover hv hj hw h0
  obtain ⟨t, ht⟩ := Int.eq_ofNat_of_zero_le h0
  have htn : t < m.rows.length := by rcases hst with e | e <;> omega
  rw [ht] at hr he ⊢
  simp only [Int.toNat_natCast] at hr ⊢
  have e1 : (toM m j).getD t 0 = lastK (partM' m m.rows.length) (firstsM m j) (reachM m 0) t (firstsM m j).length := by
    simp [toM, mapN, htn]
  rw [e1]
  have cl : ∀ i, clOf (partM' m m.rows.length) (firstsM m j) i = classM m ((firstsM m j).getD i 0) := fun i => rfl
  have ct : (partM' m m.rows.length).getD t 0 = classM m (t : Nat) := rfl
  rcases lastK_spec (p := partM' m m.rows.length) (l := firstsM m j) (is := reachM m 0) (s := t) (firstsM m j).length with ⟨i, h1, h2, h3, h4⟩ | h
  · refine ⟨i, h1, h4, ?_⟩
    obtain ⟨a1, a2, a3, a4⟩ := lead_aft hv hj h1
    rw [cl, ct, class_iff hv ⟨a3, a4⟩ ⟨by omega, by omega⟩] at h3
    exact h3
  · obtain ⟨a1, a2, a3, a4⟩ := lead_aft hv hj hk
    exact absurd ⟨hr, by rw [cl, ct, class_iff hv ⟨a3, a4⟩ ⟨by omega, by omega⟩]; exact he⟩ (h k hk)

theorem first_zero : 0 < (firstsM m j).length ∧ (firstsM m j).getD 0 0 = 0 := by
  have c : CW m [] := ⟨Wok.nil, by simp [aftM], fun w' _ hl => by rw [less_iff] at hl; rcases hl with h | h; · simp at h
                                                                  · have : w' = [] := List.length_eq_zero_iff.1 (by simpa using h.1)
                                                                    subst this; have := h.2; cases this⟩
  have hm := (lead_iff hv hj).2 c
  obtain ⟨k, hk, e⟩ := List.getElem_of_mem hm
  have hl := lead_len hv hj
  have hk0 : k = 0 := by
    rcases Nat.eq_zero_or_pos k with h | h
    · exact h
    · exfalso
      have := (List.pairwise_iff_getElem.1 (lead_sorted hv hj)) 0 k (by omega) hk h
      rw [e, less_iff] at this
      rcases this with h | ⟨h1, h2⟩
      · simp at h
      · have : (leadW m j)[0]'(by omega) = [] := List.length_eq_zero_iff.1 (by simpa using h1)
        rw [this] at h2; cases h2
  subst hk0
  have hL : 0 < (firstsM m j).length := by omega
  obtain ⟨a1, _⟩ := lead_aft hv hj hL
  have e' : (leadW m j).getD 0 [] = [] := by simp [show 0 < (leadW m j).length by omega, e]
  rw [e'] at a1
  exact ⟨hL, a1.symm⟩
end

def minR (m : M) (j : Nat) : List (List (Int × Int)) := minRows m (toM m j) (firstsM m j) (firstsM m j).length

theorem minR_iff {a b : M} {j j' : Nat} (hi : a.ins = b.ins) : minR a j = minR b j' ↔ (firstsM a j).length = (firstsM b j').length ∧ ∀ k i, k < (firstsM a j).length → i < a.ins → moveE (toM a j) (edge a ((firstsM a j).getD k 0).toNat i) = moveE (toM b j') (edge b ((firstsM b j').getD k 0).toNat i) := by
  unfold minR minRows minRow
  constructor
  · intro h
    have hl : (firstsM a j).length = (firstsM b j').length := by simpa using congrArg List.length h
    refine ⟨hl, fun k i hk hi' => ?_⟩
    have h1 := congrArg (fun l => (l.getD k []).getD i (0, 0)) h
    simpa [hk, hi', show k < (firstsM b j').length by omega, show i < b.ins by omega] using h1
  · rintro ⟨hl, h⟩
    rw [← hl]
    refine List.map_congr_left fun k hk => ?_
    rw [← hi]
    exact List.map_congr_left fun i hi' => h k i (List.mem_range.1 hk) (List.mem_range.1 hi')

theorem min_iff {a b : M} (ha : Valid a) (hb : Valid b) (hi : a.ins = b.ins) {j j' : Nat} (hj : (lev a 0 j).more = []) (hj' : (lev b 0 j').more = []) : minR a j = minR b j' ↔ Eqv a b 0 0 := by
  rw [minR_iff hi]
  constructor
  · rintro ⟨hl, h⟩
    have key : ∀ (w : List Nat) (k : Nat), Wok a w → k < (firstsM a j).length → runM a ((firstsM a j).getD k 0) w = runM b ((firstsM b j').getD k 0) w := by
      intro w
      induction w with
      | nil => intro k _ _; rfl
      | cons i w ih =>
        intro k hw hk
        have hw' := Wok.cons.1 hw
        have hk' : k < (firstsM b j').length := by omega
        have hm := h k i hk hw'.1
        obtain ⟨a1, a2, a3, a4⟩ := lead_aft ha hj hk
        obtain ⟨b1, b2, b3, b4⟩ := lead_aft hb hj' hk'
        rw [runM, runM]
        have ea : nextM a ((firstsM a j).getD k 0) i = edge a ((firstsM a j).getD k 0).toNat i := by
          rw [← nextM_nat, Int.toNat_of_nonneg a3]
        have eb : nextM b ((firstsM b j').getD k 0) i = edge b ((firstsM b j').getD k 0).toNat i := by
          rw [← nextM_nat, Int.toNat_of_nonneg b3]
        have oka := edge_ok ha (s := ((firstsM a j).getD k 0).toNat) (by omega) hw'.1
        have okb := edge_ok hb (s := ((firstsM b j').getD k 0).toNat) (i := i) (by omega) (by omega)
        have ta : aftM a 0 ((leadW a j).getD k [] ++ [i]) = (nextM a ((firstsM a j).getD k 0) i).1 := by rw [aft_app, a1]; rfl
        have tb : aftM b 0 ((leadW b j').getD k [] ++ [i]) = (nextM b ((firstsM b j').getD k 0) i).1 := by rw [aft_app, b1]; rfl
        have wa : Wok a ((leadW a j).getD k [] ++ [i]) := Wok.app.2 ⟨a2, Wok.cons.2 ⟨hw'.1, Wok.nil⟩⟩
        have wb : Wok b ((leadW b j').getD k [] ++ [i]) := Wok.app.2 ⟨b2, Wok.cons.2 ⟨by omega, Wok.nil⟩⟩
        rw [ea] at ta ⊢
        rw [eb] at tb ⊢
        generalize edge a ((firstsM a j).getD k 0).toNat i = xa at *
        generalize edge b ((firstsM b j').getD k 0).toNat i = xb at *
        have h2 : xa.2 = xb.2 := by
          have := congrArg Prod.snd hm
          have mv : ∀ t x, (moveE t x).2 = x.2 := fun t x => by unfold moveE; split <;> rfl
          rwa [mv, mv] at this
        rw [h2]
        congr 1
        by_cases hn : xa.1 < 0
        · have : xb.1 < 0 := by rw [okb.sign, ← h2, ← oka.sign]; exact hn
          exact run_neg a b w hn this
        · have hnb : ¬ xb.1 < 0 := by rw [okb.sign, ← h2, ← oka.sign]; exact hn
          obtain ⟨ka, ka1, ka2, ka3⟩ := to_spec ha hj wa (by rw [ta]; omega)
          obtain ⟨kb, kb1, kb2, kb3⟩ := to_spec hb hj' wb (by rw [tb]; omega)
          rw [ta] at ka2 ka3
          rw [tb] at kb2 kb3
          have h1 := congrArg Prod.fst hm
          unfold moveE at h1
          rw [if_pos (by omega), if_pos (by omega)] at h1
          simp only at h1
          rw [ka2, kb2] at h1
          have : ka = kb := by omega
          subst this
          rw [← ka3 w hw'.2, ih ka hw'.2 ka1]
          exact kb3 w (by have := hw'.2; unfold Wok at *; rw [← hi]; exact this)
    intro w hw
    obtain ⟨z1, z2⟩ := first_zero ha hj
    obtain ⟨y1, y2⟩ := first_zero hb hj'
    have := key w 0 hw z1
    rwa [z2, y2] at this
  · intro h
    have hw := lead_eq ha hb hi h hj hj'
    have hl : (firstsM a j).length = (firstsM b j').length := by rw [← lead_len ha hj, ← lead_len hb hj', hw]
    have al : ∀ k, k < (firstsM a j).length → Eqv a b ((firstsM a j).getD k 0) ((firstsM b j').getD k 0) := by
      intro k hk
      obtain ⟨a1, a2, _⟩ := lead_aft ha hj hk
      obtain ⟨b1, _⟩ := lead_aft hb hj' (k := k) (by omega)
      rw [← hw] at b1
      rw [← a1, ← b1]
      exact h.aft a2
    refine ⟨hl, fun k i hk hii => ?_⟩
    have hk' : k < (firstsM b j').length := by omega
    obtain ⟨a1, a2, a3, a4⟩ := lead_aft ha hj hk
    obtain ⟨b1, b2, b3, b4⟩ := lead_aft hb hj' hk'
    have he := (al k hk).next hii
    have ea : nextM a ((firstsM a j).getD k 0) i = edge a ((firstsM a j).getD k 0).toNat i := by
      rw [← nextM_nat, Int.toNat_of_nonneg a3]
    have eb : nextM b ((firstsM b j').getD k 0) i = edge b ((firstsM b j').getD k 0).toNat i := by
      rw [← nextM_nat, Int.toNat_of_nonneg b3]
    have oka := edge_ok ha (s := ((firstsM a j).getD k 0).toNat) (by omega) hii
    have okb := edge_ok hb (s := ((firstsM b j').getD k 0).toNat) (i := i) (by omega) (by omega)
    have ta : aftM a 0 ((leadW a j).getD k [] ++ [i]) = (nextM a ((firstsM a j).getD k 0) i).1 := by rw [aft_app, a1]; rfl
    have tb : aftM b 0 ((leadW b j').getD k [] ++ [i]) = (nextM b ((firstsM b j').getD k 0) i).1 := by rw [aft_app, b1]; rfl
    have wa : Wok a ((leadW a j).getD k [] ++ [i]) := Wok.app.2 ⟨a2, Wok.cons.2 ⟨hii, Wok.nil⟩⟩
    have wb : Wok b ((leadW b j').getD k [] ++ [i]) := Wok.app.2 ⟨b2, Wok.cons.2 ⟨by omega, Wok.nil⟩⟩
    rw [ea, eb] at he
    rw [ea] at ta
    rw [eb] at tb
    generalize edge a ((firstsM a j).getD k 0).toNat i = xa at *
    generalize edge b ((firstsM b j').getD k 0).toNat i = xb at *
    by_cases hn : xa.1 < 0
    · have : xb.1 < 0 := by rw [okb.sign, ← he.1, ← oka.sign]; exact hn
      unfold moveE
      rw [if_neg (by omega), if_neg (by omega)]
      rcases oka with e | e
      · rcases okb with e' | e'
        · rw [e, e']
        · omega
      · omega
    · have hnb : ¬ xb.1 < 0 := by rw [okb.sign, ← he.1, ← oka.sign]; exact hn
      obtain ⟨ka, ka1, ka2, ka3⟩ := to_spec ha hj wa (by rw [ta]; omega)
      obtain ⟨kb, kb1, kb2, kb3⟩ := to_spec hb hj' wb (by rw [tb]; omega)
      rw [ta] at ka2 ka3
      rw [tb] at kb2 kb3
      unfold moveE
      rw [if_pos (by omega), if_pos (by omega), ka2, kb2, he.1]
      have : ka = kb := by
        refine first_uniq hb hj' (by omega) kb1 ?_
        have e1 := (al ka ka1).symm hi
        exact ((e1.trans hi.symm ka3).trans hi.symm he.2).trans rfl (kb3.symm rfl)
      rw [this]
end Go.Eng.E3

namespace Go.Eng.E3
open Go Go.Eng Go.Proofs
set_option maxRecDepth 100000
attribute [local simp] execR runOps stepOp wantedD evalOp opd upd St.put Eff.apply upds looseOk FP.free FP.idle apart Eff.fp ofVal loadD storeD partD setPart indexAddrD isShift arith unD callOp mapO D.okc pickD buildable buildD placeD convD
set_option linter.unusedSimpArgs false
set_option linter.unusedVariables false
set_option maxHeartbeats 2000000

/-! ### slices.Clip, equals.word -/

theorem spec110 {w : List Nat} : bodyR 110 [.frz (w.map natD) .unk] = some (.frz (w.map natD) .exact) := by
  have hc : ∀ x ∈ w.map natD, x.cells.length = 1 := cells_word w
  have htk : List.take w.length (w.map natD) = w.map natD := List.take_of_length_le (by simp)
  refine bodyR_V (run110 _ _ (by simp)) ?_
  unfold b110
  refine .then xr110_0 (by simp [o110_0, builtinD, lenD, pD, argA]; rfl) ?_
  refine .then xr110_1 (by simp [o110_1, builtinD, lenD, pD, argA, sliceD, boundsD, optInt, htk]; rfl) (.ret ⟨_, by simp [resultsD, mapO, resultD, upd]; rfl, ?_⟩)
  rw [show snapDepth = 7 + 2 from rfl, snap_word]
  rfl

theorem call110 {w : List Nat} {tk : Tok} (h : H) : callI E (.fn 110 []) [.frz (w.map natD) tk] h = some (.frz (w.map natD) .exact, h, {}) :=
  call_pure (by decide) (xs := [.frz (w.map natD) .unk]) (by
    have := snap_word (E.pol.args 110) h.blk 7 w tk
    simp only [mapK]
    rw [show snapDepth = 7 + 2 from rfl, this]
    have hk : E.pol.args 110 = false := by decide
    rw [hk]
    cases tk <;> rfl) spec110

/-- A pair that is reached, from which arrival, with which input. -/
abbrev Arr := (Int × Int) × Int × Nat
def arrD (r : Arr) : D := .agg [.int .i64 r.1.1, .int .i64 r.1.2, .int .i64 r.2.1, .int .i64 r.2.2]
def arr0 : Arr := ((0, 0), -1, 0)
def wordA (l : List Arr) : Nat → Int → List Nat → List Nat
  | 0, _, more => more
  | k + 1, at_, more => if (l.getD at_.toNat arr0).2.1 = -1 then more else wordA l k (l.getD at_.toNat arr0).2.1 ((l.getD at_.toNat arr0).2.2 :: more)

/-- Each one but those at the start is reached from an earlier one. -/
def ArrOk (l : List Arr) : Prop := ∀ i, i < l.length → (l.getD i arr0).2.1 = -1 ∨ (0 ≤ (l.getD i arr0).2.1 ∧ (l.getD i arr0).2.1 < i)

theorem snap_arr (kp : Bool) (blk : Nat → Blk) (n : Nat) (r : Arr) : snap kp blk (n + 2) (arrD r) = some (arrD r, []) := rfl
theorem snap_arrs (kp : Bool) (blk : Nat → Blk) (n : Nat) (l : List Arr) (tk : Tok) : snap kp blk (n + 3) (.frz (l.map arrD) tk) = some (.frz (l.map arrD) (tk.fade kp), []) := by
  show (match mapK (snap false blk (n + 2)) (l.map arrD) with | some (ys, k) => some (D.frz ys (tk.fade kp), k) | none => none) = _
  rw [mapK_map l fun x _ => snap_arr false blk n x]

theorem app62c {mu : TypeId → Bool} {s : Nat} {blk : Nat → Blk} {x : Nat} {w : List Nat} {tk : Tok} (hmu : mu 62 = false) (hl : w.length < 2 ^ 38) :
    builtinD E.T mu s blk .append [62, 62] [.frz [.int .i64 x] .exact, .frz (w.map natD) tk] = some { v := .frz ((x :: w).map natD) (.own s 1), wr := [(s, .tok)] } := by
  have hsn : mapK (snap false blk snapDepth) (w.map natD) = some (w.map natD, []) := mapK_map w fun x _ => rfl
  have hall : ∀ z ∈ [D.int .i64 x] ++ w.map natD, z.cells.length = 1 := fun z hz => by
    rcases List.mem_append.1 hz with hz | hz
    · simp at hz; subst hz; rfl
    · exact cells_word w z hz
  have hle : ([D.int .i64 (x : Int)].length + (w.map natD).length) * 8 * 2 ≤ maxAppend := by simp only [List.length_map, List.length_singleton, maxAppend]; omega
  simp only [builtinD, ok_62, desc_62, if_true, appendD, elem_62, elemsD, hmu, Bool.false_eq_true, if_false, hsn, size_3, bytes_3, kills, List.map_nil, List.nil_append]
  rw [if_pos ⟨hall, hle, by decide, by decide⟩]
  simp [natD]

structure I87 (l : List Arr) (W : List Nat) (k : Nat) (st : St) : Prop where
  h0 : st.A 0 = .frz (l.map arrD) .unk
  ex : ∃ (a : Nat) (more : List Nat) (tk : Tok), st.A 1 = .int .i64 a ∧ st.A 2 = .frz (more.map natD) tk ∧ a < l.length ∧ a < k ∧ wordA l k a more = W ∧ more.length + k < 2 ^ 38

theorem spec87 {l : List Arr} (ho : ArrOk l) {a : Nat} (ha : a < l.length) {more : List Nat} (hL : l.length < 2 ^ 36) (hm : more.length < 2 ^ 36) :
    bodyR 87 [.frz (l.map arrD) .unk, .int .i64 a, .frz (more.map natD) .unk] = some (.frz ((wordA l l.length a more).map natD) .exact) := by
  have mu87 : E.pol.mu 87 62 = false := by decide
  refine bodyR_V (run87 _ _ (by simp)) ?_
  unfold b87
  refine .then xr87_0 (by simp [o87_0, builtinD, lenD, pD, argA]; rfl) ?_
  refine .seq (.block (V_while (I87 l (wordA l l.length a more)) ?_ l.length _ ⟨by simp [upd, argA], a, more, .unk, by simp [upd, argA], by simp [upd, argA], ha, ha, rfl, by omega⟩))
  rintro k ⟨A, h⟩ ⟨h0, b, mr, tk, h1, h2, hb, hk, hw, hl⟩
  simp only at h0 h1 h2
  obtain ⟨k, rfl⟩ : ∃ k', k = k' + 1 := ⟨k - 1, by omega⟩
  have hok := ho b hb
  have hbi : (b : Int) < l.length := by omega
  have hg : l.getD b arr0 = l[b] := by simp [hb]
  rw [wordA, Int.toNat_natCast, hg] at hw
  rw [hg] at hok
  obtain ⟨⟨⟨p1, p2⟩, f, i⟩, hr⟩ : ∃ r, l[b] = r := ⟨_, rfl⟩
  rw [hr] at hw hok
  simp only at hw hok
  rw [cl87_0]
  by_cases hf : f = -1
  · rw [if_pos hf] at hw
    subst hf
    refine .assoc (.then xr87_1 (by simp [o87_1, builtinD, lenD, pD, argA, h0, h1, hb, hbi, hr, arrD]; rfl) ?_)
    refine .head (v := false) (by simp [opd, upd]) (fun q => by cases q) (fun _ => ?_)
    refine .then xr87_4 (by simp [o87_4, builtinD, lenD, pD, argA, h2, call110]; rfl) (.ret ⟨_, by simp [resultsD, mapO, resultD, upd]; rfl, ?_⟩)
    rw [show snapDepth = 7 + 2 from rfl, snap_word, ← hw]
    rfl
  · rw [if_neg hf] at hw
    have hfb : (f != -1) = true := by simp [hf]
    refine .assoc (.then xr87_1 (by simp [o87_1, builtinD, lenD, pD, argA, h0, h1, hb, hbi, hr, arrD, hfb]; rfl) ?_)
    refine .head (v := true) (by simp [opd, upd]) (fun _ => ?_) (fun q => by cases q)
    have hf0 : 0 ≤ f ∧ f < b := by rcases hok with q | q; exact absurd q hf; exact q
    obtain ⟨f', rfl⟩ := Int.eq_ofNat_of_zero_le hf0.1
    refine .block (.then xr87_2 (by simp [o87_2, pD, argA, h0, h1, h2, hb, hbi, hr, arrD, app62c mu87 (show mr.length < 2 ^ 38 by omega), mu87, mapK, snapDepth, snap_int, kills]; rfl) ?_)
    refine .reg xr87_3 (by simp [o87_3, builtinD, lenD, pD, argA, h0, h1, hb, hbi, hr, arrD]; rfl) ⟨k, by omega, by simp [upd, h0], f', i :: mr, _, by simp [upd], by simp [upd]; rfl, by omega, by omega, hw, by simp; omega⟩

theorem call87 {l : List Arr} (ho : ArrOk l) {a : Nat} (ha : a < l.length) {more : List Nat} (hL : l.length < 2 ^ 36) (hm : more.length < 2 ^ 36) {tk tk' : Tok} (h : H) :
    callI E (.fn 87 []) [.frz (l.map arrD) tk, .int .i64 a, .frz (more.map natD) tk'] h = some (.frz ((wordA l l.length a more).map natD) .exact, h, {}) :=
  call_pure (by decide) (xs := [.frz (l.map arrD) .unk, .int .i64 a, .frz (more.map natD) .unk]) (by
    have hk : E.pol.args 87 = false := by decide
    rw [hk]
    have e1 := snap_arrs false h.blk 6 l tk
    have e2 := snap_word false h.blk 7 more tk'
    have f1 : tk.fade false = .unk := by cases tk <;> rfl
    have f2 : tk'.fade false = .unk := by cases tk' <;> rfl
    rw [f1] at e1
    rw [f2] at e2
    rw [← show snapDepth = 6 + 3 from rfl] at e1
    rw [← show snapDepth = 7 + 2 from rfl] at e2
    simp only [mapK, e1, e2]; rfl) (spec87 ho ha hL hm)

theorem spec86 {a b : M} : bodyR 86 [encM a, encM b] = some (.fn 109 [.iref (encM a), .iref (encM b)]) := by
  refine bodyR_V (run86 _ _ (by simp)) ?_
  unfold b86
  refine .then xr86_0 (by simp [o86_0, builtinD, lenD, pD, argA, encM]; rfl) ?_
  refine .then xr86_1 (by simp [o86_1, builtinD, lenD, pD, argA]; rfl) (.ret ⟨_, by simp [resultsD, mapO, resultD, upd]; rfl, ?_⟩)
  have e1 : ∀ blk : Nat → Blk, blk 0 = .live 3 [encM a] → snap true blk 8 (.ptr 0 0 0) = some (.iref (encM a), [0]) := fun blk hb => snap_ptr true blk 7 hb (snap_encM false _ 2 a)
  have e2 : ∀ blk : Nat → Blk, blk 1 = .live 3 [encM b] → snap true blk 8 (.ptr 1 0 0) = some (.iref (encM b), [1]) := fun blk hb => snap_ptr true blk 7 hb (snap_encM false _ 2 b)
  show Option.map _ (match mapK (snap true _ 8) [.ptr 0 0 0, .ptr 1 0 0] with | some (ys, k) => some (D.fn 109 ys, k) | none => none) = _
  simp only [mapK, upds]
  rw [e1 _ (by simp [upd, encM]), e2 _ (by simp [upd, encM])]
  rfl
end Go.Eng.E3

namespace Go.Eng.E3
open Go Go.Eng Go.Proofs
set_option maxRecDepth 100000
attribute [local simp] execR runOps stepOp wantedD evalOp opd upd St.put Eff.apply upds looseOk FP.free FP.idle apart Eff.fp ofVal loadD storeD partD setPart indexAddrD isShift arith unD callOp mapO D.okc pickD buildable buildD placeD convD
set_option linter.unusedSimpArgs false
set_option linter.unusedVariables false
set_option maxHeartbeats 4000000

/-! ### equals.differ: a round -/

noncomputable def R60 (A : Nat → D) : LoopRec := { cur := 60, A := A, N := 53, params := #[15, 16], assign := g60_0a, body := g60_0b, st := .ready, pending := none }

def meetD (a i : Nat) (x y : Int × Int) : D := .agg [.int .i64 a, .int .i64 i, .int .i64 x.1, .int .i64 x.2, .int .i64 y.1, .int .i64 y.2]

/-- A list of pairs in the heap: the variable's block, the list. -/
def PL (h : H) (c : Nat) (ps : List (Int × Int)) (N : Nat) : Prop := ∃ pb ex, h.blk c = .live 1 [.sl pb 2 0 ps.length ex] ∧ h.blk pb = .live 2 (ps.map pD) ∧ pb < N

structure HJ (A : Nat → D) (c4 c5 c6 L C : Nat) (ps ms : List (Int × Int)) (N : Nat) (h : H) : Prop where
  a4 : A 4 = .ptr c4 0 0
  a5 : A 5 = .ptr c5 0 0
  a6 : A 6 = .ptr c6 0 0
  hL : h.blk L = .loop (R60 A)
  h2 : h.blk c4 = .live 1 [.frz [] .nil]
  h3 : h.blk c5 = .live 1 [.frz [] .nil]
  hp : PL h c6 ps N
  hm : h.blk C = .map (ms.map fun p => (pD p, .bool true))
  b4 : c4 < L
  b5 : c5 < L
  bl : c6 < L
  x45 : c4 ≠ c5
  x46 : c4 ≠ c6
  x56 : c5 ≠ c6
  lc : L < C
  cn : C < N
  hn : N ≤ h.next

def addP (ps : List (Int × Int)) (x y : Int × Int) : List (Int × Int) := if x.1 ≠ -1 ∧ (x.1, y.1) ∉ ps then ps ++ [(x.1, y.1)] else ps

theorem app76 {mu : TypeId → Bool} {s b c n : Nat} {blk : Nat → Blk} {x : D} {ex ex' : Bool} {xs : List D} (hc : blk c = .live 2 [x]) (hx : x.cells.length = 2) (hxs : ∀ z ∈ xs, z.cells.length = 2) (hb : blk b = .live 2 xs) (hn : n = xs.length) (hbc : b ≠ c) (hl : n < 2 ^ 38) :
    builtinD E.T mu s blk .append [76, 76] [.sl b 2 0 n ex', .sl c 2 0 1 ex] = some { v := .sl s 2 0 (n + 1) false, wr := [(b, .dead), (s, .live 2 (xs ++ [x]))], rd := [b, c] } := by
  have hle : (n + 1) * 16 * 2 ≤ maxAppend := by unfold maxAppend; omega
  simp only [builtinD, ok_76, desc_76, if_true, appendD, elem_76, elemsD, hc, hb, row_live, size_105, bytes_105]
  simp [hx, hle, hn, hbc]
  omega

theorem cells_pairs60 (ps : List (Int × Int)) : ∀ z ∈ ps.map pD, z.cells.length = 2 := fun z hz => by
  obtain ⟨y, _, rfl⟩ := List.mem_map.1 hz; rfl

theorem call88 {ps : List (Int × Int)} {q : Int × Int} (hL : ps.length < 2 ^ 62) {h : H} {pb : Nat} {ex : Bool} (hb : h.blk pb = .live 2 (ps.map pD)) : callI E (.fn 88 []) [.sl pb 2 0 ps.length ex, .agg [.int .i64 q.1, .int .i64 q.2]] h = some (.bool (decide (q ∈ ps)), h, { rd := [pb] }) := by
  have hk : E.pol.args 88 = false := by decide
  have hs : snap false h.blk snapDepth (.sl pb 2 0 ps.length ex) = some (.frz (ps.map pD) .unk, [pb]) := by
    show (match (h.blk pb).row with | some (e, xs) => (if e = 2 ∧ 0 + ps.length ≤ xs.length then (match mapK (Eng.snap false h.blk 8) ((xs.drop 0).take ps.length) with | some (ys, k) => some (D.frz ys (if false && ex then .exact else .unk), pb :: k) | none => none) else none) | none => none) = _
    rw [hb]
    simp only [row_live, List.length_map, List.drop_zero]
    rw [if_pos ⟨trivial, by omega⟩, List.take_of_length_le (by simp), mapK_map ps fun x _ => snap_pD false h.blk 6 x]
    rfl
  have := call_cap (g := 88) (args := [.sl pb 2 0 ps.length ex, pD q]) (cap := []) (h := h) (xs := [.frz (ps.map pD) .unk, pD q]) (ks := [pb]) (by decide) (by
    rw [hk, List.append_nil]
    simp only [mapK, hs, show snap false h.blk snapDepth (pD q) = some (pD q, []) from rfl]; rfl) (spec88 hL) (fun _ => rfl)
  exact this

theorem yieldT {A : Nat → D} {c4 c5 c6 L C : Nat} {ps ms : List (Int × Int)} {N : Nat} {h : H} (hj : HJ A c4 c5 c6 L C ps ms N h) {at_ i : Nat} {x y : Int × Int} {l : List Arr} {tk : Tok} (hl : ps.length < 2 ^ 36) (he : x.2 = y.2) :
    ∃ h', callI E (.yld L) [meetD at_ i x y, .frz (l.map arrD) tk] h = some (.bool true, h', { full := true }) ∧ HJ A c4 c5 c6 L C (addP ps x y) ms h'.next h' ∧ h.next ≤ h'.next ∧ (∀ b, N ≤ b → b < h.next → h'.blk b = h.blk b) ∧ ∀ b, b < h.next → h.blk b = .tok → h'.blk b = .tok := by
  obtain ⟨a4, a5, a6, hL, h2, h3, ⟨pb, ex, p1, p2, p3⟩, hm, b4, b5, bl, x45, x46, x56, lc, cn, hn⟩ := hj
  have d1 : pb ≠ c6 := fun e => by rw [e, p1] at p2; cases p2
  have d2 : pb ≠ c4 := fun e => by rw [e, h2] at p2; cases p2
  have d3 : pb ≠ c5 := fun e => by rw [e, h3] at p2; cases p2
  have d4 : pb ≠ L := fun e => by rw [e, hL] at p2; cases p2
  have d5 : pb ≠ C := fun e => by rw [e, hm] at p2; cases p2
  -- the parameters
  have e1 : execI E 60 53 g60_0a ⟨putParams A [(15, meetD at_ i x y), (16, .frz (l.map arrD) tk)], h⟩ = some (.normal, ⟨upd (upd (upd (upd A 15 (meetD at_ i x y)) 16 (.frz (l.map arrD) tk)) 7 (.ptr h.next 0 0)) 8 (.frz (l.map arrD) tk), ⟨h.next + 2 + 1, upd (upd h.blk h.next (.live 6 [.agg [.int .i64 0, .int .i64 0, .int .i64 0, .int .i64 0, .int .i64 0, .int .i64 0]])) h.next (.live 6 [meetD at_ i x y])⟩⟩) := by
    rw [cg60_0a, execI_seq, xr60_3]
    have : execR E (callI E) 60 o60_3 [] ⟨putParams A [(15, meetD at_ i x y), (16, .frz (l.map arrD) tk)], h⟩ = some ⟨upd (upd (upd A 15 (meetD at_ i x y)) 16 (.frz (l.map arrD) tk)) 7 (.ptr h.next 0 0), ⟨h.next + 2, upd (upd h.blk h.next (.live 6 [.agg [.int .i64 0, .int .i64 0, .int .i64 0, .int .i64 0, .int .i64 0, .int .i64 0]])) h.next (.live 6 [meetD at_ i x y])⟩⟩ := by
      simp [builtinD, lenD, pD, argA, o60_3, putParams, meetD]
    rw [this]
    simp only [Option.map_some]
    rw [xr60_4]
    simp [builtinD, lenD, pD, argA, o60_4, meetD]
  -- the body
  have e2 : V E 60 53 g60_0b ⟨upd (upd (upd (upd A 15 (meetD at_ i x y)) 16 (.frz (l.map arrD) tk)) 7 (.ptr h.next 0 0)) 8 (.frz (l.map arrD) tk), ⟨h.next + 2 + 1, upd (upd (upd h.blk h.next (.live 6 [.agg [.int .i64 0, .int .i64 0, .int .i64 0, .int .i64 0, .int .i64 0, .int .i64 0]])) h.next (.live 6 [meetD at_ i x y])) L (.loop { R60 A with st := .busy })⟩⟩
      ⟨fun s => h.next ≤ s.h.next ∧ PL s.h c6 (addP ps x y) s.h.next ∧ s.h.blk L = .loop { R60 A with st := .busy } ∧ (∀ b, b < h.next → b ≠ L → b ≠ c6 → b ≠ pb → s.h.blk b = h.blk b), fun _ => False, fun _ _ => False, fun _ _ => False⟩ := by
    rw [cg60_0b]
    have n1 : ¬ h.next = L := by omega
    have n2 : ¬ c6 = h.next := by omega
    have n3 : ¬ c6 = L := by omega
    have n4 : ¬ pb = h.next := by omega
    have n5 : ∀ j, ¬ c6 = h.next + j := by omega
    have n6 : ∀ j, ¬ pb = h.next + j := by omega
    have n7 : ∀ j, ¬ h.next = h.next + 2 + 1 + j := by omega
    have n8 : ∀ j, ¬ L = h.next + j := by omega
    have n9 : ∀ j, ¬ h.next + j = L := by omega
    generalize hbk : upd (upd (upd h.blk h.next (.live 6 [.agg [.int .i64 0, .int .i64 0, .int .i64 0, .int .i64 0, .int .i64 0, .int .i64 0]])) h.next (.live 6 [meetD at_ i x y])) L (.loop { R60 A with st := .busy }) = blk1
    have g1 : blk1 h.next = .live 6 [meetD at_ i x y] := by rw [← hbk]; simp [upd, n1]
    have g2 : blk1 c6 = .live 1 [.sl pb 2 0 ps.length ex] := by rw [← hbk]; simp [upd, n2, n3, p1]
    have g3 : blk1 pb = .live 2 (ps.map pD) := by rw [← hbk]; simp [upd, d4, n4, p2]
    have g4 : blk1 L = .loop { R60 A with st := .busy } := by rw [← hbk]; simp [upd]
    have g5 : ∀ b, b < h.next → b ≠ L → blk1 b = h.blk b := fun b h1 h2 => by rw [← hbk]; simp [upd, h2, show b ≠ h.next by omega]
    have heb : (x.2 != y.2) = false := by simp [he]
    have rest : ∀ (A2 : Nat → D) (h2 : H) (c : Nat) (Q : Po), A2 6 = .ptr c6 0 0 → A2 7 = .ptr h.next 0 0 → A2 9 = .ptr c 0 0 → h2.blk c = .live 2 [.agg [.int .i64 x.1, .int .i64 y.1]] → h2.blk h.next = .live 6 [meetD at_ i x y] → (∀ b, b < h.next → h2.blk b = blk1 b) → h.next < c → c < h2.next →
        (∀ s, (h.next ≤ s.h.next ∧ PL s.h c6 (addP ps x y) s.h.next ∧ s.h.blk L = .loop { R60 A with st := .busy } ∧ (∀ b, b < h.next → b ≠ L → b ≠ c6 → b ≠ pb → s.h.blk b = h.blk b)) → Q.n s) → V E 60 53 (r60_8.seq (.cond (.tmp 47) r60_9 .skip)) ⟨A2, h2⟩ Q := by
      intro A2 h2 c Q b6 b7 b9 bc bm bf hc1 hc2 hq
      have f2 := (bf c6 (by omega)).trans g2
      have f3 := (bf pb (by omega)).trans g3
      have f4 := (bf L (by omega)).trans g4
      have f5 : ∀ b, b < h.next → b ≠ L → h2.blk b = h.blk b := fun b h1 h2 => (bf b h1).trans (g5 b h1 h2)
      have c1 : ¬ c = pb := by omega
      have c2 : ¬ pb = c := by omega
      have c3 : ¬ c6 = c := by omega
      by_cases hx : x.1 = -1
      · have hxb : (x.1 != -1) = false := by simp [hx]
        refine .then xr60_8 (by simp [o60_8, builtinD, lenD, pD, argA, b7, bm, meetD, hxb]; rfl) ?_
        refine .cond (v := false) (by simp [opd, upd]) (fun q => by cases q) (fun _ => .skip (hq _ ?_))
        have : addP ps x y = ps := by simp [addP, hx]
        rw [this]
        exact ⟨by simp only; omega, ⟨pb, ex, f2, f3, by simp only; omega⟩, f4, fun b h1 h2 h3 h4 => f5 b h1 h2⟩
      · have hxb : (x.1 != -1) = true := by simp [hx]
        have cl := call88 (q := (x.1, y.1)) (ps := ps) (ex := ex) (pb := pb) (h := ⟨h2.next + 10, h2.blk⟩) (by omega) f3
        by_cases hin : (x.1, y.1) ∈ ps
        · rw [decide_eq_true hin] at cl
          refine .then xr60_8 (by simp [o60_8, builtinD, lenD, pD, argA, b6, b7, b9, bc, bm, f2, meetD, hxb, cl]; rfl) ?_
          refine .cond (v := false) (by simp [opd, upd]) (fun q => by cases q) (fun _ => .skip (hq _ ?_))
          have : addP ps x y = ps := by simp [addP, hin]
          rw [this]
          exact ⟨by simp only; omega, ⟨pb, ex, f2, f3, by simp only; omega⟩, f4, fun b h1 h2 h3 h4 => f5 b h1 h2⟩
        · rw [decide_eq_false hin] at cl
          refine .then xr60_8 (by simp [o60_8, builtinD, lenD, pD, argA, b6, b7, b9, bc, bm, f2, meetD, hxb, cl]; rfl) ?_
          refine .cond (v := true) (by simp [opd, upd]) (fun _ => ?_) (fun q => by cases q)
          have : addP ps x y = ps ++ [(x.1, y.1)] := by simp [addP, hin, hx]
          rw [this] at hq
          have mu60 : E.pol.mu 60 76 = true := by decide
          have n10 : ∀ j, ¬ c6 = h2.next + 10 + j := by omega
          have n11 : ∀ j, ¬ pb = h2.next + 10 + j := by omega
          have n12 : ∀ j, ¬ h2.next + 10 + j = pb := by omega
          have n13 : ¬ c6 = pb := fun e => d1 e.symm
          have n14 : ∀ j, ¬ L = h2.next + 10 + j := by omega
          have ap : ∀ (blk : Nat → Blk) s d, blk d = .live 2 [.agg [.int .i64 x.1, .int .i64 y.1]] → blk pb = .live 2 (ps.map pD) → pb ≠ d → builtinD E.T (E.pol.mu 60) s blk .append [76, 76] [.sl pb 2 0 ps.length ex, .sl d 2 0 1 true] = some { v := .sl s 2 0 (ps.length + 1) false, wr := [(pb, .dead), (s, .live 2 (ps.map pD ++ [.agg [.int .i64 x.1, .int .i64 y.1]]))], rd := [pb, d] } := fun blk s d h1 h2 h3 => app76 h1 rfl (cells_pairs60 ps) h2 (by simp) h3 (by omega)
          refine .reg xr60_9 (by simp [o60_9, pD, argA, b6, b9, bc, f2, f3, mu60, show List.range 1 = [0] from rfl, n10, n11, n12, n13, ap]; rfl) (hq _ ⟨by simp only; omega, ⟨h2.next + 10 + 3, false, ?_, ?_, ?_⟩, ?_, fun b h1 h2' h3 h4 => ?_⟩)
          · simp [upd, upds]
          · simp [upd, upds, n12, pD, show ¬ h2.next + 10 + 3 = c6 by omega]
          · simp
          · simp [upd, upds, n14, show ¬ L = c6 by omega, show ¬ L = pb by omega, f4]
          · simp [upd, upds, h3, h4, show ∀ j, ¬ b = h2.next + 10 + j by omega, f5 b h1 h2']
    refine .block (.assoc (.then xr60_5 (by simp [o60_5, builtinD, lenD, pD, argA, g1, meetD, heb]; rfl) ?_))
    refine .seq (.cond (v := false) (by simp [opd, upd]) (fun q => by cases q) (fun _ => .skip ?_))
    refine .then xr60_7 (by simp [o60_7, builtinD, lenD, pD, argA, g1, meetD, n7]; rfl) ?_
    refine rest _ _ (h.next + 2 + 1 + 7 + 7) _ (by simp [upd, a6]) (by simp [upd]) (by simp [upd]) (by simp [upds, upd]) (by simpa [upds, upd, show ¬ h.next = h.next + 2 + 1 + 7 + 7 by omega] using g1) (fun b hb => by simp [upds, upd, show ¬ b = h.next + 2 + 1 + 7 + 7 by omega]) (by omega) (by simp) (fun s hs => hs)
  obtain ⟨xx, s2, q1, q2⟩ := e2
  cases xx with
  | exit i => exact q2.elim
  | goto l => exact q2.elim
  | ret => exact q2.elim
  | normal =>
    obtain ⟨z1, ⟨pb', ex', z2, z3, z4⟩, z5, z6⟩ := q2
    have hcall := callI_yld (E := E) (l := L) (args := [meetD at_ i x y, .frz (l.map arrD) tk]) (h := h) (r := R60 A) (r1 := R60 A) (r2 := { R60 A with st := .busy }) (x := .normal) hL rfl e1 (by simp [upd, show L ≠ h.next by omega, hL]) rfl q1 z5
    have w1 : ¬ c6 = L := by omega
    have w2 : pb' ≠ L := fun e => by rw [e, z5] at z3; cases z3
    refine ⟨_, hcall, ⟨a4, a5, a6, ?_, ?_, ?_, ⟨pb', ex', ?_, ?_, z4⟩, ?_, b4, b5, bl, x45, x46, x56, lc, by simp only; omega, Nat.le_refl _⟩, z1, ?_, ?_⟩
    · simp [R60, jumpOf]
    · simp only; rw [upd_ne _ _ _ _ (by omega), z6 _ (by omega) (by omega) (by omega) (Ne.symm d2)]; exact h2
    · simp only; rw [upd_ne _ _ _ _ (by omega), z6 _ (by omega) (by omega) (by omega) (Ne.symm d3)]; exact h3
    · simp only; rw [upd_ne _ _ _ _ w1]; exact z2
    · simp only; rw [upd_ne _ _ _ _ w2]; exact z3
    · simp only; rw [upd_ne _ _ _ _ (by omega), z6 _ (by omega) (by omega) (by omega) (Ne.symm d5)]; exact hm
    · intro b hb1 hb2
      simp only; rw [upd_ne _ _ _ _ (by omega), z6 _ (by omega) (by omega) (by omega) (by omega)]
    · intro b hb1 hb2
      have t1 : b ≠ L := fun e => by rw [e, hL] at hb2; cases hb2
      have t2 : b ≠ c6 := fun e => by rw [e, p1] at hb2; cases hb2
      have t3 : b ≠ pb := fun e => by rw [e, p2] at hb2; cases hb2
      simp only; rw [upd_ne _ _ _ _ t1, z6 _ hb1 t1 t2 t3]; exact hb2

theorem yieldF {A : Nat → D} {c4 c5 c6 L C : Nat} {ps ms : List (Int × Int)} {N : Nat} {h : H} (hj : HJ A c4 c5 c6 L C ps ms N h) {at_ i : Nat} {x y : Int × Int} {l : List Arr} {tk : Tok} (he : x.2 ≠ y.2) (ho : ArrOk l) (ha : at_ < l.length) (hL : l.length < 2 ^ 36) :
    ∃ h', callI E (.yld L) [meetD at_ i x y, .frz (l.map arrD) tk] h = some (.bool false, h', { full := true }) ∧ h'.blk L = .loop { R60 A with st := .done, pending := some .ret } ∧ h'.blk c4 = .live 1 [.frz ((wordA l l.length at_ [i]).map natD) .exact] ∧ h'.blk c5 = .live 1 [.frz [] .nil] ∧ h.next ≤ h'.next := by
  obtain ⟨a4, a5, a6, hL', h2, h3, ⟨pb, ex, p1, p2, p3⟩, hm, b4, b5, bl, x45, x46, x56, lc, cn, hn⟩ := hj
  have e1 : execI E 60 53 g60_0a ⟨putParams A [(15, meetD at_ i x y), (16, .frz (l.map arrD) tk)], h⟩ = some (.normal, ⟨upd (upd (upd (upd A 15 (meetD at_ i x y)) 16 (.frz (l.map arrD) tk)) 7 (.ptr h.next 0 0)) 8 (.frz (l.map arrD) tk), ⟨h.next + 2 + 1, upd (upd h.blk h.next (.live 6 [.agg [.int .i64 0, .int .i64 0, .int .i64 0, .int .i64 0, .int .i64 0, .int .i64 0]])) h.next (.live 6 [meetD at_ i x y])⟩⟩) := by
    rw [cg60_0a, execI_seq, xr60_3]
    have : execR E (callI E) 60 o60_3 [] ⟨putParams A [(15, meetD at_ i x y), (16, .frz (l.map arrD) tk)], h⟩ = some ⟨upd (upd (upd A 15 (meetD at_ i x y)) 16 (.frz (l.map arrD) tk)) 7 (.ptr h.next 0 0), ⟨h.next + 2, upd (upd h.blk h.next (.live 6 [.agg [.int .i64 0, .int .i64 0, .int .i64 0, .int .i64 0, .int .i64 0, .int .i64 0]])) h.next (.live 6 [meetD at_ i x y])⟩⟩ := by
      simp [builtinD, lenD, pD, argA, o60_3, putParams, meetD]
    rw [this]
    simp only [Option.map_some]
    rw [xr60_4]
    simp [builtinD, lenD, pD, argA, o60_4, meetD]
  have e2 : V E 60 53 g60_0b ⟨upd (upd (upd (upd A 15 (meetD at_ i x y)) 16 (.frz (l.map arrD) tk)) 7 (.ptr h.next 0 0)) 8 (.frz (l.map arrD) tk), ⟨h.next + 2 + 1, upd (upd (upd h.blk h.next (.live 6 [.agg [.int .i64 0, .int .i64 0, .int .i64 0, .int .i64 0, .int .i64 0, .int .i64 0]])) h.next (.live 6 [meetD at_ i x y])) L (.loop { R60 A with st := .busy })⟩⟩
      ⟨fun s => False, fun s => h.next ≤ s.h.next ∧ s.h.blk L = .loop { R60 A with st := .busy } ∧ s.h.blk c4 = .live 1 [.frz ((wordA l l.length at_ [i]).map natD) .exact] ∧ s.h.blk c5 = .live 1 [.frz [] .nil], fun _ _ => False, fun _ _ => False⟩ := by
    rw [cg60_0b]
    have n1 : ¬ h.next = L := by omega
    generalize hbk : upd (upd (upd h.blk h.next (.live 6 [.agg [.int .i64 0, .int .i64 0, .int .i64 0, .int .i64 0, .int .i64 0, .int .i64 0]])) h.next (.live 6 [meetD at_ i x y])) L (.loop { R60 A with st := .busy }) = blk1
    have g1 : blk1 h.next = .live 6 [meetD at_ i x y] := by rw [← hbk]; simp [upd, n1]
    have g2 : blk1 c4 = .live 1 [.frz [] .nil] := by rw [← hbk]; simp [upd, show c4 ≠ L by omega, show c4 ≠ h.next by omega, h2]
    have g3 : blk1 c5 = .live 1 [.frz [] .nil] := by rw [← hbk]; simp [upd, show c5 ≠ L by omega, show c5 ≠ h.next by omega, h3]
    have g4 : blk1 L = .loop { R60 A with st := .busy } := by rw [← hbk]; simp [upd]
    have cl : ∀ h, callI E (.fn 87 []) [.frz (l.map arrD) tk, .int .i64 at_, .frz [.int .i64 i] .exact] h = some (.frz ((wordA l l.length at_ [i]).map natD) .exact, h, {}) := fun h => call87 (more := [i]) ho ha hL (by simp) h
    have heb : (x.2 != y.2) = true := by simp [he]
    have mu60 : E.pol.mu 60 62 = false := by decide
    refine .block (.assoc (.then xr60_5 (by simp [o60_5, builtinD, lenD, pD, argA, g1, meetD, heb]; rfl) ?_))
    refine .seq (.cond (v := true) (by simp [opd, upd]) (fun _ => ?_) (fun q => by cases q))
    refine .then xr60_6 (by simp [o60_6, builtinD, lenD, pD, argA, a4, a5, g1, g2, g3, meetD, cl, mu60, x45.symm, show List.range 1 = [0] from rfl, mapK, snapDepth, snap_int, kills]; rfl) (.ret ⟨by simp only; omega, ?_, ?_, ?_⟩)
    · simp [upds, upd, g4, show ¬ L = c4 by omega, show ¬ L = c5 by omega]
    · simp [upds, upd, x45]
    · simp [upds, upd]
  obtain ⟨xx, s2, q1, q2⟩ := e2
  cases xx with
  | exit i => exact q2.elim
  | goto l => exact q2.elim
  | normal => exact q2.elim
  | ret =>
    obtain ⟨z1, z2, z3, z4⟩ := q2
    have hcall := callI_yld (E := E) (l := L) (args := [meetD at_ i x y, .frz (l.map arrD) tk]) (h := h) (r := R60 A) (r1 := R60 A) (r2 := { R60 A with st := .busy }) (x := .ret) hL' rfl e1 (by simp [upd, show L ≠ h.next by omega, hL']) rfl q1 z2
    refine ⟨_, hcall, ?_, ?_, ?_, z1⟩
    · simp [R60, jumpOf]
    · simp only; rw [upd_ne _ _ _ _ (by omega)]; exact z3
    · simp only; rw [upd_ne _ _ _ _ (by omega)]; exact z4
end Go.Eng.E3

namespace Go.Eng.E3
open Go Go.Eng Go.Proofs
set_option maxRecDepth 100000
attribute [local simp] execR runOps stepOp wantedD evalOp opd upd St.put Eff.apply upds looseOk FP.free FP.idle apart Eff.fp ofVal loadD storeD partD setPart indexAddrD isShift arith unD callOp mapO D.okc pickD buildable buildD placeD convD
set_option linter.unusedSimpArgs false
set_option linter.unusedVariables false
set_option maxHeartbeats 4000000

/-! ### equals.meets: the walk over pairs -/

theorem HJ.frame {A : Nat → D} {c4 c5 c6 L C : Nat} {ps ms : List (Int × Int)} {N N' : Nat} {h h' : H} (hj : HJ A c4 c5 c6 L C ps ms N h) (e : ∀ b, b < N → h'.blk b = h.blk b) (hn : N ≤ N') (hn' : N' ≤ h'.next) : HJ A c4 c5 c6 L C ps ms N' h' := by
  obtain ⟨a4, a5, a6, hL, h2, h3, ⟨pb, ex, p1, p2, p3⟩, hm, b4, b5, bl, x45, x46, x56, lc, cn, hnn⟩ := hj
  exact ⟨a4, a5, a6, (e _ (by omega)).trans hL, (e _ (by omega)).trans h2, (e _ (by omega)).trans h3, ⟨pb, ex, (e _ (by omega)).trans p1, (e _ p3).trans p2, by omega⟩, (e _ cn).trans hm, b4, b5, bl, x45, x46, x56, lc, by omega, hn'⟩

theorem HJ.frameT {A : Nat → D} {c4 c5 c6 L C : Nat} {ps ms : List (Int × Int)} {N N' : Nat} {h h' : H} (hj : HJ A c4 c5 c6 L C ps ms N h) (e : ∀ b, b < N → h.blk b ≠ .tok → h'.blk b = h.blk b) (hn : N ≤ N') (hn' : N' ≤ h'.next) : HJ A c4 c5 c6 L C ps ms N' h' := by
  obtain ⟨a4, a5, a6, hL, h2, h3, ⟨pb, ex, p1, p2, p3⟩, hm, b4, b5, bl, x45, x46, x56, lc, cn, hnn⟩ := hj
  exact ⟨a4, a5, a6, (e _ (by omega) (by rw [hL]; nofun)).trans hL, (e _ (by omega) (by rw [h2]; nofun)).trans h2, (e _ (by omega) (by rw [h3]; nofun)).trans h3, ⟨pb, ex, (e _ (by omega) (by rw [p1]; nofun)).trans p1, (e _ p3 (by rw [p2]; nofun)).trans p2, by omega⟩, (e _ cn (by rw [hm]; nofun)).trans hm, b4, b5, bl, x45, x46, x56, lc, by omega, hn'⟩

theorem HJ.map {A : Nat → D} {c4 c5 c6 L C : Nat} {ps ms ms' : List (Int × Int)} {N : Nat} {h h' : H} (hj : HJ A c4 c5 c6 L C ps ms N h) (e : ∀ b, b < N → b ≠ C → h'.blk b = h.blk b) (hm' : h'.blk C = .map (ms'.map fun p => (pD p, .bool true))) (hn' : N ≤ h'.next) : HJ A c4 c5 c6 L C ps ms' N h' := by
  obtain ⟨a4, a5, a6, hL, h2, h3, ⟨pb, ex, p1, p2, p3⟩, hm, b4, b5, bl, x45, x46, x56, lc, cn, hnn⟩ := hj
  have hpc : pb ≠ C := fun e => by rw [e, hm] at p2; cases p2
  exact ⟨a4, a5, a6, (e _ (by omega) (by omega)).trans hL, (e _ (by omega) (by omega)).trans h2, (e _ (by omega) (by omega)).trans h3, ⟨pb, ex, (e _ (by omega) (by omega)).trans p1, (e _ p3 hpc).trans p2, by omega⟩, hm', b4, b5, bl, x45, x46, x56, lc, by omega, hn'⟩

theorem findP (q : Int × Int) : ∀ (ms : List (Int × Int)) (i : Nat), findD E.T 105 (.agg [.int .i64 q.1, .int .i64 q.2]) (ms.map fun p => (pD p, .bool true)) i = some (if q ∈ ms then (findD E.T 105 (.agg [.int .i64 q.1, .int .i64 q.2]) (ms.map fun p => (pD p, .bool true)) i).bind id else none) ∧ (q ∈ ms → ∃ j, findD E.T 105 (.agg [.int .i64 q.1, .int .i64 q.2]) (ms.map fun p => (pD p, .bool true)) i = some (some (j, .bool true)))
  | [], i => ⟨rfl, fun h => by cases h⟩
  | p :: ms, i => by
    obtain ⟨h1, h2⟩ := findP q ms (i + 1)
    rw [List.map_cons, findD]
    simp only [pD, eqD105]
    by_cases h : q.1 = p.1 ∧ q.2 = p.2
    · have : q = p := Prod.ext h.1 h.2
      rw [decide_eq_true h]
      subst this
      exact ⟨by simp, fun _ => ⟨i, rfl⟩⟩
    · have : q ≠ p := fun e => h (by rw [e]; exact ⟨rfl, rfl⟩)
      rw [decide_eq_false h]
      simp only [List.mem_cons, this, false_or]
      exact ⟨h1, h2⟩

theorem find_in {q : Int × Int} {ms : List (Int × Int)} (h : q ∈ ms) : ∃ j, findD E.T 105 (.agg [.int .i64 q.1, .int .i64 q.2]) (ms.map fun p => (pD p, .bool true)) 0 = some (some (j, .bool true)) := (findP q ms 0).2 h
theorem find_out {q : Int × Int} {ms : List (Int × Int)} (h : q ∉ ms) : findD E.T 105 (.agg [.int .i64 q.1, .int .i64 q.2]) (ms.map fun p => (pD p, .bool true)) 0 = some none := by
  rw [(findP q ms 0).1, if_neg h]

theorem keyP (q : Int × Int) : keyOk E.T 105 (.agg [.int .i64 q.1, .int .i64 q.2]) = true := by
  unfold keyOk; rw [eqD105]; simp

theorem lookP {blk : Nat → Blk} {C : Nat} {ms : List (Int × Int)} (hb : blk C = .map (ms.map fun p => (pD p, .bool true))) (q : Int × Int) : lookupD E.T blk 111 (.mp C) (.agg [.int .i64 q.1, .int .i64 q.2]) false = some { v := .bool (decide (q ∈ ms)), rd := [C] } := by
  unfold lookupD
  rw [map_111]
  simp only [keyP, if_true, hb]
  by_cases h : q ∈ ms
  · obtain ⟨j, hj⟩ := find_in h
    rw [hj, decide_eq_true h]; rfl
  · rw [find_out h, decide_eq_false h]
    simp

theorem updP {blk : Nat → Blk} {C : Nat} {ms : List (Int × Int)} (hb : blk C = .map (ms.map fun p => (pD p, .bool true))) {q : Int × Int} (h : q ∉ ms) : updateD E.T blk 111 (.mp C) (.agg [.int .i64 q.1, .int .i64 q.2]) (.bool true) = some { v := .undef, wr := [(C, .map ((ms ++ [q]).map fun p => (pD p, .bool true)))], rd := [C] } := by
  unfold updateD
  rw [map_111]
  simp only [keyP, if_true, hb, find_out h]
  simp [pD]

/-! The walk, as plain lists. -/

def addA (l : List Arr) (a i : Nat) (x y : Int × Int) : List Arr := if x.1 ≠ -1 ∧ (x.1, y.1) ∉ l.map (·.1) then l ++ [((x.1, y.1), ((a : Nat) : Int), i)] else l

theorem addA_map (l : List Arr) (a i : Nat) (x y : Int × Int) : (addA l a i x y).map (·.1) = addP (l.map (·.1)) x y := by
  unfold addA addP; split <;> simp

def stepP (a b : M) (at_ : Nat) (l : List Arr) (i : Nat) : Option (List Arr) :=
  if (edge a (l.getD at_ arr0).1.1.toNat i).2 = (edge b (l.getD at_ arr0).1.2.toNat i).2 then some (addA l at_ i (edge a (l.getD at_ arr0).1.1.toNat i) (edge b (l.getD at_ arr0).1.2.toNat i)) else none

def innP (a b : M) (at_ : Nat) : Nat → List Arr → Sum (List Arr) (List Arr × Nat × Nat)
  | 0, l => .inl l
  | k + 1, l => match stepP a b at_ l (a.ins - (k + 1)) with
    | some l' => innP a b at_ k l'
    | none => .inr (l, at_, a.ins - (k + 1))

def outP (a b : M) : Nat → Nat → List Arr → Sum (List Arr) (List Arr × Nat × Nat)
  | 0, _, l => .inl l
  | k + 1, at_, l => if at_ < l.length then match innP a b at_ a.ins l with
      | .inl l' => outP a b k (at_ + 1) l'
      | .inr r => .inr r
    else .inl l

theorem nodup_lt : ∀ (n : Nat) {l : List Nat}, l.Nodup → (∀ x ∈ l, x < n) → l.length ≤ n
  | 0, l, _, h => by cases l with
    | nil => simp
    | cons x l => have := h x (List.mem_cons_self ..); omega
  | n + 1, l, hn, h => by
    have h1 := nodup_lt n (hn.erase n) fun x hx => by
      have := (List.Nodup.mem_erase_iff hn).1 hx
      have := h x this.2
      omega
    have := List.length_erase (a := n) (l := l)
    split at this <;> omega

structure Good (a b : M) (l : List Arr) : Prop where
  ok : ArrOk l
  rng : ∀ r ∈ l, 0 ≤ r.1.1 ∧ r.1.1 < a.rows.length ∧ 0 ≤ r.1.2 ∧ r.1.2 < b.rows.length
  nd : (l.map (·.1)).Nodup

theorem Good.len {a b : M} {l : List Arr} (g : Good a b l) : l.length ≤ a.rows.length * b.rows.length := by
  have h1 : ((l.map (·.1)).map fun p => p.1.toNat * b.rows.length + p.2.toNat).Nodup := by
    rw [List.nodup_iff_pairwise_ne, List.pairwise_map]
    have := List.nodup_iff_pairwise_ne.1 g.nd
    refine List.Pairwise.imp_of_mem ?_ this
    intro p q hp hq hne e
    obtain ⟨r, hr, rfl⟩ := List.mem_map.1 hp
    obtain ⟨r', hr', rfl⟩ := List.mem_map.1 hq
    obtain ⟨u1, u2, u3, u4⟩ := g.rng r hr
    obtain ⟨v1, v2, v3, v4⟩ := g.rng r' hr'
    have hb : 0 < b.rows.length := by omega
    have e1 : r.1.1.toNat = r'.1.1.toNat := by
      have h1 : (r.1.1.toNat * b.rows.length + r.1.2.toNat) / b.rows.length = r.1.1.toNat := by
        rw [Nat.mul_comm, Nat.mul_add_div hb, Nat.div_eq_of_lt (by omega), Nat.add_zero]
      have h2 : (r'.1.1.toNat * b.rows.length + r'.1.2.toNat) / b.rows.length = r'.1.1.toNat := by
        rw [Nat.mul_comm, Nat.mul_add_div hb, Nat.div_eq_of_lt (by omega), Nat.add_zero]
      rw [← h1, ← h2, e]
    rw [e1] at e
    have e2 : r.1.2.toNat = r'.1.2.toNat := by omega
    exact hne (Prod.ext (by omega) (by omega))
  have h2 := nodup_lt (a.rows.length * b.rows.length) h1 (by
    intro x hx
    obtain ⟨p, hp, rfl⟩ := List.mem_map.1 hx
    obtain ⟨r, hr, rfl⟩ := List.mem_map.1 hp
    obtain ⟨u1, u2, u3, u4⟩ := g.rng r hr
    have : (r.1.1.toNat + 1) * b.rows.length ≤ a.rows.length * b.rows.length := Nat.mul_le_mul_right _ (by omega)
    rw [Nat.add_mul] at this
    omega)
  simpa using h2

theorem Good.add {a b : M} {l : List Arr} (g : Good a b l) {at_ i : Nat} {x y : Int × Int} (ha : at_ < l.length) (hx : EdgeOk a x) (hy : EdgeOk b y) (he : x.2 = y.2) : Good a b (addA l at_ i x y) := by
  unfold addA
  split
  · rename_i hc
    have hx1 : 0 ≤ x.1 ∧ x.1 < a.rows.length ∧ x.2 ≠ -1 := by
      rcases hx with rfl | h
      · exact absurd rfl hc.1
      · exact ⟨h.1, h.2.1, by omega⟩
    have hy1 : 0 ≤ y.1 ∧ y.1 < b.rows.length := by
      rcases hy with rfl | h
      · exact absurd he hx1.2.2
      · exact ⟨h.1, h.2.1⟩
    refine ⟨fun k hk => ?_, fun r hr => ?_, ?_⟩
    · rcases Nat.lt_or_ge k l.length with h | h
      · rw [show (l ++ [((x.1, y.1), ((at_ : Nat) : Int), i)]).getD k arr0 = l.getD k arr0 by simp [List.getElem?_append_left h]]
        exact g.ok k h
      · have : k = l.length := by simp at hk; omega
        subst this
        right
        simp; omega
    · rcases List.mem_append.1 hr with hr | hr
      · exact g.rng r hr
      · simp at hr; subst hr; exact ⟨hx1.1, hx1.2.1, hy1.1, hy1.2⟩
    · rw [List.map_append, List.nodup_append]
      refine ⟨g.nd, by simp, fun p hp q hq e => ?_⟩
      simp at hq; subst hq; subst e; exact hc.2 hp
  · exact g

theorem addA_len (l : List Arr) (a i : Nat) (x y : Int × Int) : l.length ≤ (addA l a i x y).length := by
  unfold addA; split <;> simp
theorem addA_at {l : List Arr} {a i k : Nat} {x y : Int × Int} (h : k < l.length) : (addA l a i x y).getD k arr0 = l.getD k arr0 := by
  unfold addA; split
  · simp [List.getElem?_append_left h]
  · rfl

/-- The room of a list that append builds. -/
def TokX (blk : Nat → Blk) (tk : Tok) (e nx : Nat) : Prop := tk = .exact ∨ ∃ o, tk = .own o e ∧ blk o = .tok ∧ o < nx

theorem TokX.mono {blk blk' : Nat → Blk} {tk : Tok} {e nx nx' : Nat} (h : TokX blk tk e nx) (hn : nx ≤ nx') (hb : ∀ b, b < nx → blk b = .tok → blk' b = .tok) : TokX blk' tk e nx' := by
  rcases h with h | ⟨o, h1, h2, h3⟩
  · exact .inl h
  · exact .inr ⟨o, h1, hb o h3 h2, by omega⟩

theorem app140 {mu : TypeId → Bool} {s : Nat} {blk : Nat → Blk} {xs : List Arr} {tk tk' : Tok} {x : Arr} {nx : Nat} (hmu : mu 140 = false) (ht : TokX blk tk 4 nx) (hl : xs.length < 2 ^ 38) :
    builtinD E.T mu s blk .append [140, 140] [.frz (xs.map arrD) tk, .frz [.agg [.int .i64 x.1.1, .int .i64 x.1.2, .int .i64 x.2.1, .int .i64 x.2.2]] tk'] = some { v := .frz ((xs ++ [x]).map arrD) (.own s 4), wr := tokWr tk s, rd := tokRd tk } := by
  have hall : ∀ z ∈ xs.map arrD ++ [arrD x], z.cells.length = 4 := fun z hz => by
    rcases List.mem_append.1 hz with hz | hz
    · obtain ⟨y, _, rfl⟩ := List.mem_map.1 hz; rfl
    · simp at hz; subst hz; rfl
  have hle : ((xs.map arrD).length + [arrD x].length) * 32 * 2 ≤ maxAppend := by
    simp only [List.length_map, List.length_singleton, maxAppend]; omega
  have hsn : mapK (snap false blk snapDepth) [arrD x] = some ([arrD x], []) := rfl
  rw [show D.agg [.int .i64 x.1.1, .int .i64 x.1.2, .int .i64 x.2.1, .int .i64 x.2.2] = arrD x from rfl]
  rcases ht with rfl | ⟨o, rfl, h2, h3⟩
  · simp only [builtinD, ok_140, desc_140, if_true, appendD, elem_140, elemsD, hmu, Bool.false_eq_true, if_false, hsn, size_166, bytes_166, kills, List.map_nil, List.append_nil, List.nil_append]
    rw [if_pos ⟨hall, hle, by decide, by decide⟩]
    simp [tokWr, tokRd]
  · simp only [builtinD, ok_140, desc_140, if_true, appendD, elem_140, elemsD, hmu, Bool.false_eq_true, if_false, hsn, size_166, bytes_166, kills, List.map_nil, List.append_nil, List.nil_append]
    rw [if_pos ⟨hall, hle, by decide, by decide⟩]
    simp only [if_true, h2]
    simp [tokWr, tokRd]

structure F109 (a b : M) (As : Nat → D) (c4 c5 c6 L C : Nat) (l : List Arr) (at_ : Nat) (st : St) : Prop where
  h0 : st.A 0 = .yld L
  h1 : st.A 1 = .iref (encM a)
  h2 : st.A 2 = .iref (encM b)
  h4 : st.A 4 = .mp C
  h5 : ∃ tk, st.A 5 = .frz (l.map arrD) tk ∧ TokX st.h.blk tk 4 st.h.next
  h6 : st.A 6 = .int .i64 at_
  hj : HJ As c4 c5 c6 L C (l.map (·.1)) (l.map (·.1)) st.h.next st.h
  g : Good a b l

def Res109 (As : Nat → D) (c4 c5 c6 L C : Nat) (st : St) : Sum (List Arr) (List Arr × Nat × Nat) → Prop
  | .inl l => HJ As c4 c5 c6 L C (l.map (·.1)) (l.map (·.1)) st.h.next st.h
  | .inr (l, at_, i) => st.h.blk L = .loop { R60 As with st := .done, pending := some .ret } ∧ st.h.blk c4 = .live 1 [.frz ((wordA l l.length at_ [i]).map natD) .exact] ∧ st.h.blk c5 = .live 1 [.frz [] .nil] ∧ C < st.h.next

structure J109 (a b : M) (As : Nat → D) (c4 c5 c6 L C : Nat) (at_ : Nat) (p : Int × Int) (R : Sum (List Arr) (List Arr × Nat × Nat)) (k : Nat) (st : St) : Prop where
  le : k ≤ a.ins
  ex : ∃ l, F109 a b As c4 c5 c6 L C l at_ st ∧ at_ < l.length ∧ (l.getD at_ arr0).1 = p ∧ innP a b at_ k l = R
  h7 : st.A 7 = .int .i64 p.1
  h8 : st.A 8 = .int .i64 p.2
  h37 : st.A 37 = .int .i64 a.ins
  h38 : st.A 38 = .int .i64 ((a.ins - k : Nat) : Int)

theorem loop109b {a b : M} (va : Valid a) (vb : Valid b) (hins : a.ins = b.ins) {As : Nat → D} {c4 c5 c6 L C at_ : Nat} {p : Int × Int} (hp : 0 ≤ p.1 ∧ p.1 < a.rows.length ∧ 0 ≤ p.2 ∧ p.2 < b.rows.length) {R : Sum (List Arr) (List Arr × Nat × Nat)} {Q : Po}
    (hQ : ∀ st, J109 a b As c4 c5 c6 L C at_ p R 0 st → Q.x 2 st) (hR : ∀ st l a' i, R = .inr (l, a', i) → Res109 As c4 c5 c6 L C st R → Q.r st) (k : Nat) (st : St) (hI : J109 a b As c4 c5 c6 L C at_ p R k st) : V E 109 95 (.loop l109_1) st Q := by
  have i2 := va.i2
  have ar2 := va.r2
  have br2 := vb.r2
  refine V.count (J109 a b As c4 c5 c6 L C at_ p R) ?_ ?_ k st hI
  · rintro k ⟨A, h⟩ ⟨le, ⟨l, f, hat, hpe, hR'⟩, h7, h8, h37, h38⟩
    have hlt : a.ins - (k + 1) < a.ins := by omega
    obtain ⟨f0, f1, f2, f4, ⟨tk, f5, ft⟩, f6, fj, fg⟩ := f
    rw [innP, stepP, hpe] at hR'
    generalize hi : a.ins - (k + 1) = i at *
    have hk' : a.ins - k = i + 1 := by omega
    have hwr : IntKind.i64.wrap ((i : Int) + 1) = ((i + 1 : Nat) : Int) := by rw [wrap_id] <;> omega
    simp only at f0 f1 f2 f4 f5 ft f6 fj h7 h8 h37 h38
    obtain ⟨p1, p2⟩ := p
    simp only at h7 h8 hp hR'
    obtain ⟨s, rfl⟩ := Int.eq_ofNat_of_zero_le hp.1
    obtain ⟨t, rfl⟩ := Int.eq_ofNat_of_zero_le hp.2.2.1
    simp only [Int.toNat_natCast] at hR'
    have hs : s < a.rows.length := by omega
    have ht : t < b.rows.length := by omega
    have hsl : i < a.rows[s].length := by rw [va.len _ (List.getElem_mem hs)]; exact hlt
    have htl : i < b.rows[t].length := by rw [vb.len _ (List.getElem_mem ht)]; omega
    have ea : edge a s i = a.rows[s][i] := by simp [edge, hs, hsl]
    have eb : edge b t i = b.rows[t][i] := by simp [edge, ht, htl]
    have oka := edge_ok va hs hlt
    have okb := edge_ok vb ht (by omega : i < b.ins)
    rw [ea] at oka hR'
    rw [eb] at okb hR'
    have hll := fg.len
    have hll2 : l.length ≤ 64 * 64 := Nat.le_trans hll (Nat.mul_le_mul ar2 br2)
    obtain ⟨x, hx⟩ : ∃ x, a.rows[s][i] = x := ⟨_, rfl⟩
    obtain ⟨y, hy⟩ : ∃ y, b.rows[t][i] = y := ⟨_, rfl⟩
    rw [hx] at oka hR'
    rw [hy] at okb hR'
    rw [cl109_1]
    refine .then xr109_7 (by simp [o109_7, builtinD, lenD, pD, argA, h37, h38, hlt]; rfl) ?_
    refine .head (v := true) (by simp [opd, upd]) (fun _ => ?_) (fun q => by cases q)
    refine .seq (.block (.then xr109_8 (by simp [o109_8, builtinD, lenD, pD, argA, h38]; rfl) ?_))
    -- the end of a round
    have fin : ∀ (A3 : Nat → D) (h3 : H) (tk' : Tok), (∀ t, t = 0 ∨ t = 1 ∨ t = 2 ∨ t = 4 ∨ t = 6 ∨ t = 7 ∨ t = 8 ∨ t = 37 ∨ t = 38 → A3 t = A t) → A3 5 = .frz ((addA l at_ i x y).map arrD) tk' → TokX h3.blk tk' 4 h3.next → HJ As c4 c5 c6 L C ((addA l at_ i x y).map (·.1)) ((addA l at_ i x y).map (·.1)) h3.next h3 → x.2 = y.2 →
        V E 109 95 r109_15 ⟨A3, h3⟩ (Q.upto (J109 a b As c4 c5 c6 L C at_ ((s : Int), (t : Int)) R k)) := by
      intro A3 h3 tk' eA e5 et ej he
      have e38 := (eA 38 (by omega)).trans h38
      rw [if_pos he] at hR'
      refine .reg xr109_15 (by simp [o109_15, builtinD, lenD, pD, argA, e38]; rfl) ⟨by omega, ⟨addA l at_ i x y, ⟨?_, ?_, ?_, ?_, ⟨tk', ?_, ?_⟩, ?_, ?_, ?_⟩, ?_, ?_, hR'⟩, ?_, ?_, ?_, ?_⟩
      · simp [upd, eA, f0]
      · simp [upd, eA, f1]
      · simp [upd, eA, f2]
      · simp [upd, eA, f4]
      · simp [upd, e5]
      · exact et.mono (by simp) (fun b _ h => h)
      · simp [upd, eA, f6]
      · exact ej.frame (fun b _ => rfl) (by simp) (Nat.le_refl _)
      · exact fg.add hat oka okb he
      · exact Nat.lt_of_lt_of_le hat (addA_len _ _ _ _ _)
      · rw [addA_at hat, hpe]
      · simp [upd, eA, h7]
      · simp [upd, eA, h8]
      · simp [upd, eA, h37]
      · simp [upd, hk', hwr]
    have rest : ∀ (A2 : Nat → D) (h2 : H) (cx cy : Nat), (∀ t, t = 0 ∨ t = 1 ∨ t = 2 ∨ t = 4 ∨ t = 5 ∨ t = 6 ∨ t = 7 ∨ t = 8 ∨ t = 37 ∨ t = 38 → A2 t = A t) → A2 9 = .int .i64 i → A2 10 = .ptr cx 0 0 → A2 11 = .ptr cy 0 0 → h2.blk cx = .live 2 [.agg [.int .i64 x.1, .int .i64 x.2]] → h2.blk cy = .live 2 [.agg [.int .i64 y.1, .int .i64 y.2]] → (∀ b, b < h.next → h2.blk b = h.blk b) → h.next ≤ cx → cx < h2.next → h.next ≤ cy → cy < h2.next →
        V E 109 95 ((r109_10.seq (.cond (.tmp 65) .ret .skip)).seq (r109_11.seq (r109_12.seq (.cond (.tmp 84) (r109_13.seq r109_14) .skip)))) ⟨A2, h2⟩ (((Q.upto (J109 a b As c4 c5 c6 L C at_ ((s : Int), (t : Int)) R k)).upto fun s' => V E 109 95 r109_15 s' (Q.upto (J109 a b As c4 c5 c6 L C at_ ((s : Int), (t : Int)) R k))).within 3) := by
      intro A2 h2 cx cy eA e9 e10 e11 ecx ecy eb2 k1 k2 k3 k4
      have g0 := (eA 0 (by omega)).trans f0
      have g4 := (eA 4 (by omega)).trans f4
      have g5 := (eA 5 (by omega)).trans f5
      have g6 := (eA 6 (by omega)).trans f6
      have hj3 : HJ As c4 c5 c6 L C (l.map (·.1)) (l.map (·.1)) h.next ⟨h2.next + 9, h2.blk⟩ := fj.frame (fun b hb => eb2 b hb) (Nat.le_refl _) (by simp only; omega)
      by_cases he : x.2 = y.2
      · obtain ⟨h', y1, y2, y3, y4, y5⟩ := yieldT hj3 (at_ := at_) (i := i) (x := x) (y := y) (l := l) (tk := tk) (by simp; omega) he
        simp only [meetD] at y1
        simp only at y3 y4 y5
        refine .assoc (.then xr109_10 (by simp [o109_10, builtinD, lenD, pD, argA, g0, g5, g6, e9, e10, e11, ecx, ecy, y1]; rfl) ?_)
        refine .seq (.cond (v := false) (by simp [opd, upd]) (fun q => by cases q) (fun _ => .skip ?_))
        have d1 := (y4 cx k1 (by omega)).trans ecx
        have d2 := (y4 cy k3 (by omega)).trans ecy
        have dt : TokX h'.blk tk 4 h'.next := ft.mono (by omega) (fun b hb hbt => y5 b (by omega) ((eb2 b hb).trans hbt))
        refine .then xr109_11 (by simp [o109_11, builtinD, lenD, pD, argA, e10, e11, d1, d2]; rfl) ?_
        have w1 : ¬ cx = h'.next + 5 := by omega
        have w2 : ¬ cy = h'.next + 5 := by omega
        have w3 : ¬ C = h'.next + 5 := by have := y2.cn; omega
        have w4 : ∀ b, b < h'.next → ¬ b = h'.next + 5 := by omega
        have hmC := y2.hm
        have fj2 : ∀ blk2 : Nat → Blk, (∀ b, b < h'.next → blk2 b = h'.blk b) → ∀ nx, h'.next ≤ nx → HJ As c4 c5 c6 L C (addP (l.map (·.1)) x y) (l.map (·.1)) nx ⟨nx, blk2⟩ := fun blk2 hb nx hn => y2.frame hb hn (Nat.le_refl _)
        by_cases hx1 : x.1 = -1
        · have hxb : (x.1 != -1) = false := by simp [hx1]
          have ea1 : addA l at_ i x y = l := by simp [addA, hx1]
          have ea2 : addP (l.map (·.1)) x y = l.map (·.1) := by simp [addP, hx1]
          rw [ea1] at fin
          rw [ea2] at fj2
          refine .then xr109_12 (by simp [o109_12, builtinD, lenD, pD, argA, e10, e11, d1, d2, w1, w2, hxb]; rfl) ?_
          refine .cond (v := false) (by simp [opd, upd]) (fun q => by cases q) (fun _ => .skip ?_)
          refine fin _ _ tk (fun t ht => ?_) (by simp [upd, g5]) (dt.mono (by simp; omega) (fun b hb hbt => ?_)) (fj2 _ (fun b hb => ?_) _ (by simp; omega)) he
          · rcases ht with rfl | rfl | rfl | rfl | rfl | rfl | rfl | rfl | rfl <;> simp [upd, eA]
          · simp [upds, upd, w4 b hb, hbt]
          · simp [upds, upd, w4 b hb]
        · have hxb : (x.1 != -1) = true := by simp [hx1]
          have hx2 : x.2 ≠ -1 := by rcases oka with rfl | q; exact absurd rfl hx1; omega
          have hy1 : y.1 ≠ -1 := by rcases okb with rfl | q; exact absurd he hx2; omega
          have hyb : (y.1 != -1) = true := by simp [hy1]
          have lk : ∀ blk2 : Nat → Blk, blk2 C = .map ((l.map (·.1)).map fun p => (pD p, .bool true)) → lookupD E.T blk2 111 (.mp C) (.agg [.int .i64 x.1, .int .i64 y.1]) false = some { v := .bool (decide ((x.1, y.1) ∈ l.map (·.1))), rd := [C] } := fun blk2 hb => lookP hb (x.1, y.1)
          by_cases hin : (x.1, y.1) ∈ l.map (·.1)
          · rw [decide_eq_true hin] at lk
            have ea1 : addA l at_ i x y = l := by unfold addA; rw [if_neg (fun q => q.2 hin)]
            have ea2 : addP (l.map (·.1)) x y = l.map (·.1) := by unfold addP; rw [if_neg (fun q => q.2 hin)]
            rw [ea1] at fin
            rw [ea2] at fj2
            have hmC' := hmC
            generalize hms : (l.map (·.1)).map (fun p => (pD p, D.bool true)) = ms at *
            refine .then xr109_12 (by simp [o109_12, builtinD, lenD, pD, argA, e10, e11, d1, d2, w1, w2, w3, hxb, hyb, g4, lk, hmC']; rfl) ?_
            refine .cond (v := false) (by simp [opd, upd]) (fun q => by cases q) (fun _ => .skip ?_)
            refine fin _ _ tk (fun t ht => ?_) (by simp [upd, g5]) (dt.mono (by simp; omega) (fun b hb hbt => ?_)) (fj2 _ (fun b hb => ?_) _ (by simp; omega)) he
            · rcases ht with rfl | rfl | rfl | rfl | rfl | rfl | rfl | rfl | rfl <;> simp [upd, eA]
            · simp [upds, upd, w4 b hb, hbt]
            · simp [upds, upd, w4 b hb]
          · rw [decide_eq_false hin] at lk
            have ea1 : addA l at_ i x y = l ++ [((x.1, y.1), (at_ : Int), i)] := by unfold addA; rw [if_pos ⟨hx1, hin⟩]
            have ea2 : addP (l.map (·.1)) x y = l.map (·.1) ++ [(x.1, y.1)] := by unfold addP; rw [if_pos ⟨hx1, hin⟩]
            rw [ea1] at fin
            rw [ea2] at fj2
            have hmC' := hmC
            have up : ∀ blk2 : Nat → Blk, blk2 C = .map ((l.map (·.1)).map fun p => (pD p, .bool true)) → updateD E.T blk2 111 (.mp C) (.agg [.int .i64 x.1, .int .i64 y.1]) (.bool true) = some { v := .undef, wr := [(C, .map ((l.map (·.1) ++ [(x.1, y.1)]).map fun p => (pD p, .bool true)))], rd := [C] } := fun blk2 hb => updP hb hin
            generalize hms : (l.map (·.1)).map (fun p => (pD p, D.bool true)) = ms at *
            refine .then xr109_12 (by simp [o109_12, builtinD, lenD, pD, argA, e10, e11, d1, d2, w1, w2, w3, hxb, hyb, g4, lk, hmC']; rfl) ?_
            refine .cond (v := true) (by simp [opd, upd]) (fun _ => ?_) (fun q => by cases q)
            have w3' : ¬ h'.next + 5 = C := fun e => w3 e.symm
            have mu109 : E.pol.mu 109 140 = false := by decide
            have ap : ∀ (blk : Nat → Blk) s nx tkz, TokX blk tk 4 nx → builtinD E.T (E.pol.mu 109) s blk .append [140, 140] [.frz (l.map arrD) tk, .frz [.agg [.int .i64 x.1, .int .i64 y.1, .int .i64 at_, .int .i64 i]] tkz] = some { v := .frz ((l ++ [((x.1, y.1), (at_ : Int), i)]).map arrD) (.own s 4), wr := tokWr tk s, rd := tokRd tk } := fun blk s nx tkz ht => app140 (x := ((x.1, y.1), (at_ : Int), i)) mu109 ht (by omega)
            have nC : ∀ o, tk = .own o 4 → o ≠ C := fun o e eo => by
              rcases dt with q | ⟨o', q1, q2, q3⟩
              · rw [q] at e; cases e
              · rw [q1] at e; cases e; rw [eo, hmC'] at q2; cases q2
            have rest2 : ∀ (A4 : Nat → D) (h4 : H) (cz : Nat), (∀ t, t = 0 ∨ t = 1 ∨ t = 2 ∨ t = 4 ∨ t = 5 ∨ t = 6 ∨ t = 7 ∨ t = 8 ∨ t = 37 ∨ t = 38 → A4 t = A t) → A4 9 = .int .i64 i → A4 12 = .ptr cz 0 0 → h4.blk cz = .live 2 [.agg [.int .i64 x.1, .int .i64 y.1]] → TokX h4.blk tk 4 h4.next → HJ As c4 c5 c6 L C (l.map (·.1) ++ [(x.1, y.1)]) (l.map (·.1) ++ [(x.1, y.1)]) h4.next h4 →
                V E 109 95 r109_14 ⟨A4, h4⟩ ((Q.upto (J109 a b As c4 c5 c6 L C at_ ((s : Int), (t : Int)) R k)).upto (fun s' => V E 109 95 r109_15 s' (Q.upto (J109 a b As c4 c5 c6 L C at_ ((s : Int), (t : Int)) R k))) |>.within 3) := by
              intro A4 h4 cz eA4 e9' e12 ecz et ej
              have g5' := (eA4 5 (by omega)).trans f5
              have g6' := (eA4 6 (by omega)).trans f6
              have ap' := fun s tkz => ap h4.blk s h4.next tkz et
              refine .reg xr109_14 (by simp [o109_14, pD, argA, g5', g6', e9', e12, ecz, ap', mu109, show List.range 1 = [0] from rfl, mapK, snapDepth, snap_int, snap, kills]; rfl) ?_
              refine fin _ _ (.own (h4.next + 6) 4) (fun t ht => ?_) (by simp [upd]) ?_ ?_ he
              · rcases ht with rfl | rfl | rfl | rfl | rfl | rfl | rfl | rfl | rfl <;> simp [upd, eA4]
              · refine .inr ⟨_, rfl, ?_, by simp⟩
                rcases et with rfl | ⟨o, rfl, o1, o2⟩ <;> simp [upds, upd, tokWr]
              · rw [List.map_append]
                refine ej.frameT (fun b hb hbt => ?_) (by simp) (Nat.le_refl _)
                rcases et with rfl | ⟨o, rfl, o1, o2⟩
                · simp [upds, upd, tokWr, show ¬ b = h4.next + 6 by omega]
                · have : b ≠ o := fun e => hbt (by rw [e]; exact o1)
                  simp [upds, upd, tokWr, show ¬ b = h4.next + 6 by omega, this]
            refine .then xr109_13 (by simp [o109_13, builtinD, lenD, pD, argA, g4, w1, w2, w3, w3', up, hmC']; rfl) ?_
            refine rest2 _ _ (h'.next + 5) (fun t ht => ?_) (by simp [upd, e9]) (by simp [upd]) (by simp [upds, upd, w3']) ?_ ?_
            · rcases ht with rfl | rfl | rfl | rfl | rfl | rfl | rfl | rfl | rfl | rfl <;> simp [upd, eA]
            · refine dt.mono (by simp; omega) (fun b hb hbt => ?_)
              have : b ≠ C := fun e => by rw [e, hmC'] at hbt; cases hbt
              simp [upds, upd, w4 b hb, hbt, this]
            · refine ((fj2 h'.blk (fun _ _ => rfl) h'.next (Nat.le_refl _)).map (h' := ⟨_, _⟩) (fun b hb hbC => ?_) ?_ (by simp only; omega)).frame (fun _ _ => rfl) (by simp only; omega) (Nat.le_refl _)
              · simp [upds, upd, w4 b hb, hbC]
              · simp [upds, upd, ← hms, pD]
      · obtain ⟨h', y1, y2, y3, y4, y5⟩ := yieldF hj3 (at_ := at_) (i := i) (x := x) (y := y) (l := l) (tk := tk) he fg.ok hat (by omega)
        simp only [meetD] at y1
        refine .assoc (.then xr109_10 (by simp [o109_10, builtinD, lenD, pD, argA, g0, g5, g6, e9, e10, e11, ecx, ecy, y1]; rfl) ?_)
        refine .seq (.cond (v := true) (by simp [opd, upd]) (fun _ => .ret ?_) (fun q => by cases q))
        rw [if_neg he] at hR'
        refine hR _ l at_ i hR'.symm ?_
        rw [← hR']
        exact ⟨y2, y3, y4, by have := fj.cn; simp only at y5; show C < h'.next; omega⟩
    refine .then xr109_9 (by simp [o109_9, builtinD, lenD, pD, argA, f1, f2, h7, h8, encM, hs, ht, hsl, htl, hx, hy, rowD]; rfl) ?_
    refine rest _ _ (h.next + 1 + 2 + 16) (h.next + 1 + 2 + 17) (fun t ht => ?_) (by simp [upd]) (by simp [upd]) (by simp [upd]) (by simp [upds, upd]) (by simp [upds, upd]) (fun b hb => ?_) (by omega) (by simp) (by omega) (by simp)
    · rcases ht with rfl | rfl | rfl | rfl | rfl | rfl | rfl | rfl | rfl | rfl <;> simp [upd]
    · simp [upds, upd, show ¬ b = h.next + 1 + 2 + 16 by omega, show ¬ b = h.next + 1 + 2 + 17 by omega]
  · rintro ⟨A, h⟩ ⟨le, ⟨l, f, hat, hpe, hR'⟩, h7, h8, h37, h38⟩
    obtain ⟨f0, f1, f2, f4, ⟨tk, f5, ft⟩, f6, fj, fg⟩ := f
    simp only at f0 f1 f2 f4 f5 ft f6 fj h7 h8 h37 h38
    rw [cl109_1]
    refine .then xr109_7 (by simp [o109_7, builtinD, lenD, pD, argA, h37, h38]; rfl) ?_
    refine .head (v := false) (by simp [opd, upd]) (fun q => by cases q) (fun _ => hQ _ ⟨by omega, ⟨l, ⟨?_, ?_, ?_, ?_, ⟨tk, ?_, ?_⟩, ?_, ?_, fg⟩, hat, hpe, hR'⟩, ?_, ?_, ?_, ?_⟩)
    · simp [upd, f0]
    · simp [upd, f1]
    · simp [upd, f2]
    · simp [upd, f4]
    · simp [upd, f5]
    · exact ft.mono (by simp) (fun b _ h => h)
    · simp [upd, f6]
    · exact fj.frame (fun b _ => rfl) (by simp) (Nat.le_refl _)
    · simp [upd, h7]
    · simp [upd, h8]
    · simp [upd, h37]
    · simp [upd, h38]
end Go.Eng.E3

namespace Go.Eng.E3
open Go Go.Eng Go.Proofs
set_option maxRecDepth 100000
attribute [local simp] execR runOps stepOp wantedD evalOp opd upd St.put Eff.apply upds looseOk FP.free FP.idle apart Eff.fp ofVal loadD storeD partD setPart indexAddrD isShift arith unD callOp mapO D.okc pickD buildable buildD placeD convD
set_option linter.unusedSimpArgs false
set_option linter.unusedVariables false
set_option maxHeartbeats 4000000

/-- A range over a function. -/
theorem V_range {E : Env} {cur : FuncId} {N : Nat} {f : Operand} {ps : Array Tmp} {aa bd : Code} {s : St} {g : FuncId} {cap : List D} {r : D} {h2 : H} {fp : FP} {lr : LoopRec} {x : X} {Q : Po} (hf : opd s.A f = some (.fn g cap))
    (hc : callI E (.fn g cap) [.yld s.h.next] ⟨s.h.next + 1, upd s.h.blk s.h.next (.loop { cur, A := s.A, N, params := ps, assign := aa, body := bd, st := .ready, pending := none })⟩ = some (r, h2, fp)) (hb : h2.blk s.h.next = .loop lr) (hst : lr.st = .ready ∨ lr.st = .done) (hx : jumpX lr.pending = some x)
    (hq : Q.to x ⟨s.A, ⟨h2.next, upd h2.blk s.h.next .dead⟩⟩) : V E cur N (.rangeFunc f ps aa bd) s Q := by
  refine ⟨x, _, ?_, hq⟩
  rw [execI_rangeFunc]
  unfold rangeC
  rw [hf]
  simp only [hc, hb, hx]
  rcases hst with e | e <;> rw [e]

structure I109 (a b : M) (As : Nat → D) (c4 c5 c6 L C : Nat) (R : Sum (List Arr) (List Arr × Nat × Nat)) (k : Nat) (st : St) : Prop where
  ex : ∃ l at_, F109 a b As c4 c5 c6 L C l at_ st ∧ outP a b k at_ l = R ∧ a.rows.length * b.rows.length ≤ at_ + k ∧ at_ < 2 ^ 40

theorem loop109a {a b : M} (va : Valid a) (vb : Valid b) (hins : a.ins = b.ins) {As : Nat → D} {c4 c5 c6 L C : Nat} {R : Sum (List Arr) (List Arr × Nat × Nat)} {Q : Po}
    (hQ : ∀ st, (∃ l, R = .inl l) → Res109 As c4 c5 c6 L C st R → Q.x 0 st) (hR : ∀ st l a' i, R = .inr (l, a', i) → Res109 As c4 c5 c6 L C st R → Q.r st) (k : Nat) (st : St) (hI : I109 a b As c4 c5 c6 L C R k st) : V E 109 95 (.loop l109_0) st Q := by
  have i1 := va.i1
  have i2 := va.i2
  have ar2 := va.r2
  have br2 := vb.r2
  refine V_while (I109 a b As c4 c5 c6 L C R) ?_ k st hI
  rintro k ⟨A, h⟩ ⟨l, at_, ⟨f0, f1, f2, f4, ⟨tk, f5, ft⟩, f6, fj, fg⟩, ho, hk, hab⟩
  simp only at f0 f1 f2 f4 f5 ft f6 fj
  have hll := fg.len
  have hll2 : l.length ≤ 64 * 64 := Nat.le_trans hll (Nat.mul_le_mul ar2 br2)
  rw [cl109_0]
  by_cases hat : at_ < l.length
  · obtain ⟨k, rfl⟩ : ∃ k', k = k' + 1 := ⟨k - 1, by omega⟩
    have hatI : (at_ : Int) < l.length := by omega
    rw [outP, if_pos hat] at ho
    have hwr : IntKind.i64.wrap ((at_ : Int) + 1) = ((at_ + 1 : Nat) : Int) := by rw [wrap_id] <;> omega
    refine .assoc (.then xr109_3 (by simp [o109_3, builtinD, lenD, pD, argA, f5, f6, hat]; rfl) ?_)
    refine .head (v := true) (by simp [opd, upd]) (fun _ => ?_) (fun q => by cases q)
    have hg : l.getD at_ arr0 = l[at_] := by simp [hat]
    obtain ⟨⟨⟨p1, p2⟩, fr, inp⟩, hr⟩ : ∃ r, l[at_] = r := ⟨_, rfl⟩
    have hrng := fg.rng _ (List.getElem_mem hat)
    rw [hr] at hg hrng
    refine .seq (.block (.then xr109_5 (by simp [o109_5, builtinD, lenD, pD, argA, f5, f6, hat, hatI, hr, arrD]; rfl) ?_))
    refine .then xr109_6 (by simp [o109_6, builtinD, lenD, pD, argA, f1, encM]; rfl) ?_
    cases hin : innP a b at_ a.ins l with
    | inl l' =>
      rw [hin] at ho
      refine .block (loop109b (As := As) (c4 := c4) (c5 := c5) (c6 := c6) (L := L) (C := C) va vb hins (p := (p1, p2)) (R := .inl l') hrng ?_ (fun st l a' i e => by cases e) a.ins _ ⟨Nat.le_refl _, ⟨l, ⟨?_, ?_, ?_, ?_, ⟨tk, ?_, ?_⟩, ?_, ?_, fg⟩, hat, by rw [hg], hin⟩, ?_, ?_, ?_, ?_⟩)
      · rintro ⟨A2, h2⟩ ⟨_, ⟨l2, ⟨g0, g1, g2, g4, ⟨tk2, g5, gt⟩, g6, gj, gg⟩, _, _, e⟩, _⟩
        simp only at g0 g1 g2 g4 g5 gt g6 gj
        rw [innP] at e
        cases e
        show V E 109 95 r109_4 _ _
        refine .reg xr109_4 (by simp [o109_4, builtinD, lenD, pD, argA, g6]; rfl) ⟨k, by omega, l', at_ + 1, ⟨?_, ?_, ?_, ?_, ⟨tk2, ?_, ?_⟩, ?_, ?_, gg⟩, ho, by omega, by omega⟩
        · simp [upd, g0]
        · simp [upd, g1]
        · simp [upd, g2]
        · simp [upd, g4]
        · simp [upd, g5]
        · exact gt.mono (by simp) (fun b _ h => h)
        · simp [upd, hwr]
        · exact gj.frame (fun b _ => rfl) (by simp) (Nat.le_refl _)
      · simp [upd, f0]
      · simp [upd, f1]
      · simp [upd, f2]
      · simp [upd, f4]
      · simp [upd, f5]
      · exact ft.mono (by simp; omega) (fun b _ h => h)
      · simp [upd, f6]
      · exact fj.frame (fun b _ => rfl) (by simp; omega) (Nat.le_refl _)
      · simp [upd]
      · simp [upd]
      · simp [upd]
      · simp [upd]
    | inr r =>
      rw [hin] at ho
      simp only at ho
      refine .block (loop109b (As := As) (c4 := c4) (c5 := c5) (c6 := c6) (L := L) (C := C) va vb hins (p := (p1, p2)) (R := .inr r) hrng ?_ (fun st l a' i e hres => ?_) a.ins _ ⟨Nat.le_refl _, ⟨l, ⟨?_, ?_, ?_, ?_, ⟨tk, ?_, ?_⟩, ?_, ?_, fg⟩, hat, by rw [hg], hin⟩, ?_, ?_, ?_, ?_⟩)
      · rintro ⟨A2, h2⟩ ⟨_, ⟨l2, _, _, _, e⟩, _⟩
        rw [innP] at e; cases e
      · exact hR st l a' i (by rw [← ho, e]) (by rw [← ho]; exact hres)
      · simp [upd, f0]
      · simp [upd, f1]
      · simp [upd, f2]
      · simp [upd, f4]
      · simp [upd, f5]
      · exact ft.mono (by simp; omega) (fun b _ h => h)
      · simp [upd, f6]
      · exact fj.frame (fun b _ => rfl) (by simp; omega) (Nat.le_refl _)
      · simp [upd]
      · simp [upd]
      · simp [upd]
      · simp [upd]
  · have hR1 : R = .inl l := by
      rw [← ho]
      cases k with
      | zero => rfl
      | succ k => rw [outP, if_neg hat]
    refine .assoc (.then xr109_3 (by simp [o109_3, builtinD, lenD, pD, argA, f5, f6, hat]; rfl) ?_)
    refine .head (v := false) (by simp [opd, upd]) (fun q => by cases q) (fun _ => hQ _ ⟨l, hR1⟩ ?_)
    rw [hR1]
    exact fj.frame (fun b _ => rfl) (by simp) (Nat.le_refl _)

theorem call109 {a b : M} (va : Valid a) (vb : Valid b) (hins : a.ins = b.ins) {As : Nat → D} {c4 c5 c6 L : Nat} {h : H} (hn : h.next = L + 1) (hj : ∀ blk nx, h.next < nx → (∀ b, b < h.next → blk b = h.blk b) → blk h.next = .map [(pD (0, 0), .bool true)] → HJ As c4 c5 c6 L h.next [(0, 0)] [(0, 0)] nx ⟨nx, blk⟩) :
    ∃ r h', callI E (.fn 109 [.iref (encM a), .iref (encM b)]) [.yld L] h = some (r, h', { full := true }) ∧ Res109 As c4 c5 c6 L h.next ⟨fun _ => .undef, h'⟩ (outP a b (a.rows.length * b.rows.length) 0 [arr0]) := by
  have ar1 := va.r1
  have br1 := vb.r1
  have key := body_V (P := fun v h' => Res109 As c4 c5 c6 L h.next ⟨fun _ => .undef, h'⟩ (outP a b (a.rows.length * b.rows.length) 0 [arr0])) (run109 ([.yld L] ++ [.iref (encM a), .iref (encM b)]) h (by simp)) (by
    have res : ∀ (st : St) R, Res109 As c4 c5 c6 L h.next st R → Res109 As c4 c5 c6 L h.next ⟨fun _ => .undef, st.h⟩ R := fun st R hr => by
      cases R with
      | inl l => exact hr
      | inr r => obtain ⟨l, a', i⟩ := r; exact hr
    have up0 : updateD E.T (upd h.blk h.next (.map [])) 111 (.mp h.next) (.agg [.int .i64 0, .int .i64 0]) (.bool true) = some { v := .undef, wr := [(h.next, .map [(pD (0, 0), .bool true)])], rd := [h.next] } := by
      have := updP (blk := upd h.blk h.next (.map [])) (C := h.next) (ms := []) (by simp) (q := (0, 0)) (by simp)
      simpa using this
    have mu109 : E.pol.mu 109 140 = false := by decide
    unfold b109
    refine .then xr109_0 (by simp [o109_0, builtinD, lenD, pD, argA, up0]; rfl) ?_
    refine .then xr109_1 (by simp [o109_1, builtinD, lenD, pD, argA, mu109, show List.range 1 = [0] from rfl, mapK, snapDepth, snap_int, snap, kills]; rfl) ?_
    refine .then xr109_2 (by simp [o109_2, builtinD, lenD, pD, argA]; rfl) ?_
    refine .block ((loop109a (As := As) (c4 := c4) (c5 := c5) (c6 := c6) (L := L) (C := h.next) va vb hins (R := outP a b (a.rows.length * b.rows.length) 0 [arr0]) ?_ ?_ (a.rows.length * b.rows.length) _ ⟨[arr0], 0, ⟨?_, ?_, ?_, ?_, ⟨.exact, ?_, .inl rfl⟩, ?_, ?_, ?_⟩, rfl, by omega, by omega⟩))
    · intro st _ hr
      exact ⟨.tup [], by simp [resultsD, mapO], res _ _ hr⟩
    · intro st l a' i _ hr
      exact ⟨.tup [], by simp [resultsD, mapO], res _ _ hr⟩
    · simp [upd, argA]
    · simp [upd, argA]
    · simp [upd, argA]
    · simp [upd]
    · simp [upd, arrD, arr0]
    · simp [upd]
    · refine hj _ _ (by simp <;> omega) (fun b hb => ?_) ?_
      · simp [upds, upd, show ¬ b = h.next by omega]
      · simp [upds, upd, pD]
    · refine ⟨fun i hi => ?_, fun r hr => ?_, by simp⟩
      · have : i = 0 := by simp at hi; omega
        subst this; exact .inl rfl
      · simp at hr; subst hr; exact ⟨by simp [arr0], by simp [arr0]; omega, by simp [arr0], by simp [arr0]; omega⟩)
  obtain ⟨v, h', e, hr⟩ := key
  refine ⟨v, h', ?_, hr⟩
  rw [callI_fn, if_neg (by decide)]
  simp only [e]; rfl

/-- What differ returns: a word, or the pairs that are reached. -/
def difR (a b : M) : Sum (List Arr) (List Arr × Nat × Nat) := outP a b (a.rows.length * b.rows.length) 0 [arr0]
def difW (a b : M) : List Nat := match difR a b with
  | .inl _ => []
  | .inr (l, at_, i) => wordA l l.length at_ [i]

/-- The room of the word. -/
def difTk (a b : M) : Tok := match difR a b with
  | .inl _ => .nil
  | .inr _ => .exact

/-- equals.differ. -/
theorem call60 {a b : M} (va : Valid a) (vb : Valid b) (hins : a.ins = b.ins) (h : H) : ∃ h' v, callI E (.fn 60 []) [.agg [.int .i64 a.ins, .int .i64 a.outs, .frz (a.rows.map rowD) .unk], .agg [.int .i64 b.ins, .int .i64 b.outs, .frz (b.rows.map rowD) .unk]] h = some (.tup [.frz ((difW a b).map natD) (difTk a b), v], h', { full := true }) ∧ h.next ≤ h'.next ∧
    (match difR a b with
      | .inl l => ∃ pb ex, v = .sl pb 2 0 l.length ex ∧ h'.blk pb = .live 2 (l.map fun r => pD r.1) ∧ pb < h'.next
      | .inr _ => v = .frz [] .nil) := by
  have hk : E.pol.args 86 = false := by decide
  have c86 : ∀ h, callI E (.fn 86 []) [.agg [.int .i64 a.ins, .int .i64 a.outs, .frz (a.rows.map rowD) .unk], .agg [.int .i64 b.ins, .int .i64 b.outs, .frz (b.rows.map rowD) .unk]] h = some (.fn 109 [.iref (encM a), .iref (encM b)], h, {}) := fun h =>
    call_pure (by decide) (snaps2 (snap_encM _ _ 4 a) (snap_encM _ _ 4 b)) spec86
  have mu60 : E.pol.mu 60 76 = true := by decide
  have key := body_V (P := fun v h' => ∃ w, v = .tup [.frz ((difW a b).map natD) (difTk a b), w] ∧ h.next ≤ h'.next ∧
    (match difR a b with
      | .inl l => ∃ pb ex, w = .sl pb 2 0 l.length ex ∧ h'.blk pb = .live 2 (l.map fun r => pD r.1) ∧ pb < h'.next
      | .inr _ => w = .frz [] .nil)) (run60 [.agg [.int .i64 a.ins, .int .i64 a.outs, .frz (a.rows.map rowD) .unk], .agg [.int .i64 b.ins, .int .i64 b.outs, .frz (b.rows.map rowD) .unk]] h (by simp)) (by
    unfold b60
    refine .then xr60_0 (by simp [o60_0, builtinD, lenD, pD, argA, encM]; rfl) ?_
    refine .then xr60_1 (by simp [o60_1, builtinD, lenD, pD, argA, mu60, show List.range 1 = [0] from rfl]; rfl) ?_
    have rest : ∀ (A : Nat → D) (h1 : H), A 2 = .ptr h.next 0 0 → A 3 = .ptr (h.next + 1) 0 0 → A 4 = .ptr (h.next + 2) 0 0 → A 5 = .ptr (h.next + 3) 0 0 → A 6 = .ptr (h.next + 4 + 2) 0 0 → h1.blk h.next = .live 3 [encM a] → h1.blk (h.next + 1) = .live 3 [encM b] →
        h1.blk (h.next + 2) = .live 1 [.frz [] .nil] → h1.blk (h.next + 3) = .live 1 [.frz [] .nil] → h1.blk (h.next + 4 + 2) = .live 1 [.sl (h.next + 4 + 1) 2 0 1 true] → h1.blk (h.next + 4 + 1) = .live 2 [pD (0, 0)] → h1.next = h.next + 8 → ∀ Q : Po,
        (∀ s : St, s.A 4 = .ptr (h.next + 2) 0 0 → s.A 5 = .ptr (h.next + 3) 0 0 → h.next ≤ s.h.next → (∀ r, difR a b = .inr r → s.h.blk (h.next + 2) = .live 1 [.frz ((difW a b).map natD) .exact] ∧ s.h.blk (h.next + 3) = .live 1 [.frz [] .nil]) → (∀ l, difR a b = .inl l → s.h.blk (h.next + 2) = .live 1 [.frz [] .nil] ∧ ∃ pb ex, s.h.blk (h.next + 3) = .live 1 [.sl pb 2 0 l.length ex] ∧ s.h.blk pb = .live 2 (l.map fun r => pD r.1) ∧ pb < s.h.next) → Q.r s) →
        V E 60 53 ((r60_2.seq (.block 0 (.rangeFunc (.tmp 14) #[15, 16] g60_0a g60_0b))).seq (r60_10.seq .ret)) ⟨A, h1⟩ Q := by
      intro A h1 a2 a3 a4 a5 a6 b0 b1 b2 b3 b6 bp hn Q hq
      obtain ⟨A2, hA2⟩ : ∃ A2, upd (upd (upd A 12 (D.agg [.int .i64 a.ins, .int .i64 a.outs, .frz (a.rows.map rowD) .unk])) 13 (D.agg [.int .i64 b.ins, .int .i64 b.outs, .frz (b.rows.map rowD) .unk])) 14 (D.fn 109 [.iref (encM a), .iref (encM b)]) = A2 := ⟨_, rfl⟩
      have reg : execR E (callI E) 60 o60_2 [] ⟨A, h1⟩ = some ⟨A2, ⟨h1.next + 3, h1.blk⟩⟩ := by
        rw [← hA2]; simp [builtinD, lenD, pD, argA, o60_2, a2, a3, b0, b1, encM, c86]
      refine .assoc (.then xr60_2 reg ?_)
      have e14 : A2 14 = .fn 109 [.iref (encM a), .iref (encM b)] := by rw [← hA2]; simp [upd]
      have e4 : A2 4 = .ptr (h.next + 2) 0 0 := by rw [← hA2]; simp [upd, a4]
      have e5 : A2 5 = .ptr (h.next + 3) 0 0 := by rw [← hA2]; simp [upd, a5]
      have e6 : A2 6 = .ptr (h.next + 4 + 2) 0 0 := by rw [← hA2]; simp [upd, a6]
      obtain ⟨r, h', cc, hres⟩ := call109 va vb hins (As := A2) (c4 := h.next + 2) (c5 := h.next + 3) (c6 := h.next + 4 + 2) (L := h1.next + 3) (h := ⟨h1.next + 3 + 1, upd h1.blk (h1.next + 3) (.loop (R60 A2))⟩) rfl (by
        intro blk nx hnx hbk hm
        simp only at hnx hbk hm
        have q : ∀ b, b < h1.next + 3 → blk b = h1.blk b := fun b hb => (hbk b (by omega)).trans (upd_ne _ _ _ _ (by omega))
        refine ⟨e4, e5, e6, (hbk _ (by omega)).trans (upd_same ..), (q _ (by omega)).trans b2, (q _ (by omega)).trans b3, ⟨h.next + 4 + 1, true, (q _ (by omega)).trans b6, (q _ (by omega)).trans bp, by omega⟩, hm, by omega, by omega, by omega, by omega, by omega, by omega, by simp only; omega, by simp only; omega, Nat.le_refl _⟩)
      have hd : outP a b (a.rows.length * b.rows.length) 0 [arr0] = difR a b := rfl
      rw [hd] at hres
      cases hdr : difR a b with
      | inl l =>
        rw [hdr] at hres hq
        obtain ⟨k4, k5, k6, kL, k2, k3, ⟨pb, ex, p1, p2, p3⟩, km, kb4, kb5, kbl, kx45, kx46, kx56, klc, kcn, khn⟩ := hres
        have hw : difW a b = [] := by simp only [difW, hdr]
        refine .seq (.block (V_range (x := .normal) (congrArg some e14) cc kL (.inl rfl) rfl ?_))
        show V E 60 53 (r60_10.seq .ret) _ _
        change h'.blk _ = _ at p1 p2 k2 k3
        have p3' : pb < h'.next := p3
        have kcn' : h1.next + 3 + 1 < h'.next := kcn
        have z1 : ¬ h.next + 4 + 2 = h1.next + 3 := by omega
        have z2 : ¬ h.next + 2 = h1.next + 3 := by omega
        have z3 : ¬ h.next + 3 = h1.next + 3 := by omega
        have z4 : ¬ pb = h1.next + 3 := fun e => by rw [e, kL] at p2; cases p2
        have z5 : ¬ h.next + 2 = h.next + 3 := by omega
        have z6 : ¬ h.next + 3 = h.next + 2 := by omega
        have z7 : ¬ pb = h.next + 2 := fun e => by rw [e, k2] at p2; cases p2
        have z8 : ¬ pb = h.next + 3 := fun e => by rw [e, k3] at p2; cases p2
        have z9 : ¬ h.next + 4 + 2 = h.next + 2 := by omega
        have z10 : ¬ h.next + 4 + 2 = h.next + 3 := by omega
        generalize h.next + 2 = c4 at *
        generalize h.next + 3 = c5 at *
        generalize h.next + 4 + 2 = c6 at *
        refine .then xr60_10 (by simp [o60_10, builtinD, lenD, pD, argA, e4, e5, e6, p1, k2, k3, z1, z2, z3, z5, z6, z9, z10]; rfl) (.ret (hq _ ?_ ?_ ?_ (fun r e => by cases e) (fun l' e => ?_)))
        · simp [upd, e4]
        · simp [upd, e5]
        · simp; omega
        · cases e
          refine ⟨by simp [upds, upd, z5], pb, ex, by simp [upds, upd], ?_, by simp; omega⟩
          simp [upds, upd, z7, z8, z4, p2]
      | inr r' =>
        obtain ⟨l, a', i⟩ := r'
        rw [hdr] at hres hq
        obtain ⟨kL, k2, k3, kC⟩ := hres
        have hw : difW a b = wordA l l.length a' [i] := by simp only [difW, hdr]
        refine .seq (.block (V_range (x := .ret) (congrArg some e14) cc kL (.inr rfl) rfl ?_))
        refine hq _ e4 e5 ?_ (fun r e => ?_) (fun l e => by cases e)
        · simp only at kC ⊢; omega
        · rw [hw]
          refine ⟨?_, ?_⟩
          · simp only; rw [upd_ne _ _ _ _ (by omega)]; exact k2
          · simp only; rw [upd_ne _ _ _ _ (by omega)]; exact k3
    have m1 : ¬ h.next = h.next + 4 + 1 := by omega
    have m2 : ¬ h.next = h.next + 4 + 2 := by omega
    refine rest _ _ (by simp [upd]) (by simp [upd]) (by simp [upd]) (by simp [upd]) (by simp [upd]) ?_ ?_ ?_ ?_ ?_ ?_ ?_ _ (fun s z4 z5 zn zr zl => ?_)
    · simp [upds, upd, encM, m1, m2]
    · simp [upds, upd, encM]
    · simp [upds, upd]
    · simp [upds, upd]
    · simp [upds, upd]
    · simp [upds, upd, pD]
    · simp
    · cases hdr : difR a b with
      | inl l =>
        obtain ⟨y1, pb, ex, y2, y3, y4⟩ := zl l hdr
        have hw : difW a b = [] := by simp only [difW, hdr]
        refine ⟨.tup [.frz [] .nil, .sl pb 2 0 l.length ex], by simp [resultsD, mapO, resultD, z4, z5, y1, y2, loadD, partD], _, by rw [hw]; simp only [difTk, hdr]; rfl, zn, pb, ex, rfl, y3, y4⟩
      | inr r =>
        obtain ⟨y1, y2⟩ := zr r hdr
        exact ⟨.tup [.frz ((difW a b).map natD) .exact, .frz [] .nil], by simp [resultsD, mapO, resultD, z4, z5, y1, y2, loadD, partD], _, by simp only [difTk, hdr], zn, rfl⟩)
  obtain ⟨v, h', e, w, rfl, e1, e2⟩ := key
  refine ⟨h', w, ?_, e1, e2⟩
  rw [callI_fn, if_neg (by decide)]
  simp [e]

theorem difW_inr {a b : M} {l : List Arr} {at_ i : Nat} (h : difR a b = .inr (l, at_, i)) : difW a b ≠ [] := by
  have key : ∀ k (at_ : Int) (more : List Nat), more ≠ [] → wordA l k at_ more ≠ [] := by
    intro k
    induction k with
    | zero => intro at_ more hm; exact hm
    | succ k ih =>
      intro at_ more hm
      rw [wordA]
      split
      · exact hm
      · exact ih _ _ (by simp)
  unfold difW
  rw [h]
  exact key _ _ _ (by simp)

theorem spec25 {a b : M} (va : Valid a) (vb : Valid b) (hins : a.ins = b.ins) : bodyR 25 [encM a, encM b] = some (.tup [.frz ((difW a b).map natD) (difTk a b), .bool (decide (0 < (difW a b).length)), .int .i64 0]) := by
  have c59 : ∀ h, callI E (.fn 59 []) [.agg [.int .i64 a.ins, .int .i64 a.outs, .frz (a.rows.map rowD) .unk], .agg [.int .i64 b.ins, .int .i64 b.outs, .frz (b.rows.map rowD) .unk]] h = some (.int .i64 0, h, {}) := fun h =>
    call_pure (by decide) (snaps2 (snap_encM _ _ 4 a) (snap_encM _ _ 4 b)) (spec59 va vb hins)
  have rest : ∀ (A : Nat → D) (h : H) (Q : Po), A 2 = .ptr 0 0 0 → A 3 = .ptr 1 0 0 → h.blk 0 = .live 3 [encM a] → h.blk 1 = .live 3 [encM b] → (∀ s : St, s.A 4 = .frz ((difW a b).map natD) (difTk a b) → s.A 5 = .bool (decide (0 < (difW a b).length)) → s.A 6 = .int .i64 0 → Q.r s) → V E 25 26 (r25_4.seq (r25_5.seq .ret)) ⟨A, h⟩ Q := by
    intro A h Q a2 a3 b0 b1 hq
    obtain ⟨h', v, e1, e3, e4⟩ := call60 va vb hins ⟨h.next + 8, h.blk⟩
    refine .then xr25_4 (by simp [o25_4, builtinD, lenD, pD, argA, a2, a3, b0, b1, encM, e1]; rfl) ?_
    refine .then xr25_5 (by simp [o25_5, builtinD, lenD, pD, argA]; rfl) (.ret (hq _ ?_ ?_ ?_))
    · simp [upd]
    · simp [upd]
    · simp [upd]
  refine bodyR_V (run25 _ _ (by simp)) ?_
  unfold b25
  refine .then xr25_0 (by simp [o25_0, builtinD, lenD, pD, argA, encM]; rfl) ?_
  refine .assoc (.then xr25_1 (by simp [o25_1, builtinD, lenD, pD, argA, encM, c59]; rfl) ?_)
  refine .assoc (.then xr25_2 (by simp [o25_2, builtinD, lenD, pD, argA]; rfl) ?_)
  refine .seq (.cond (v := false) (by simp [opd, upd]) (fun q => by cases q) (fun _ => .skip ?_))
  refine rest _ _ _ (by simp [upd]) (by simp [upd]) (by simp [upds, upd, encM]) (by simp [upds, upd, encM]) (fun s e4 e5 e6 => ⟨_, by simp [resultsD, mapO, resultD, e4, e5, e6]; rfl, ?_⟩)
  have h1 := snap_word true s.h.blk 6 (difW a b) (difTk a b)
  have h2 : (difTk a b).fade true = difTk a b := by unfold difTk; cases difR a b <;> rfl
  rw [h2] at h1
  show Option.map _ (match mapK (snap true s.h.blk (6 + 2)) _ with | some (ys, k) => some (D.tup ys, k) | none => none) = _
  simp only [mapK, h1]
  rfl

theorem spec19 {a b : M} (va : Valid a) (vb : Valid b) (hins : a.ins = b.ins) : bodyR 19 [encM a, encM b] = some (.tup [.bool (decide (difW a b = [])), .int .i64 0]) := by
  have c25 : ∀ h, callI E (.fn 25 []) [.agg [.int .i64 a.ins, .int .i64 a.outs, .frz (a.rows.map rowD) .unk], .agg [.int .i64 b.ins, .int .i64 b.outs, .frz (b.rows.map rowD) .unk]] h = some (.tup [.frz ((difW a b).map natD) (difTk a b), .bool (decide (0 < (difW a b).length)), .int .i64 0], h, {}) := fun h =>
    call_pure (by decide) (snaps2 (snap_encM _ _ 4 a) (snap_encM _ _ 4 b)) (spec25 va vb hins)
  have hd : (!decide (0 < (difW a b).length)) = decide (difW a b = []) := by
    cases difW a b <;> simp
  refine bodyR_V (run19 _ _ (by simp)) ?_
  unfold b19
  refine .then xr19_0 (by simp [o19_0, builtinD, lenD, pD, argA, encM]; rfl) ?_
  refine .then xr19_1 (by simp [o19_1, builtinD, lenD, pD, argA, encM, c25]; rfl) ?_
  refine .then xr19_2 (by simp [o19_2, builtinD, lenD, pD, argA]; rfl) (.ret ⟨_, by simp [resultsD, mapO, resultD, upd]; rfl, ?_⟩)
  rw [← hd]
  simp [snap, snapDepth, mapK]
end Go.Eng.E3

namespace Go.Eng.E3
open Go Go.Eng
set_option linter.unusedSimpArgs false
set_option linter.unusedVariables false

/-! ### What differ finds -/

def closedAt (a b : M) (l : List Arr) (j i : Nat) : Prop :=
  (edge a (l.getD j arr0).1.1.toNat i).2 = (edge b (l.getD j arr0).1.2.toNat i).2 ∧ ((edge a (l.getD j arr0).1.1.toNat i).1 ≠ -1 → ((edge a (l.getD j arr0).1.1.toNat i).1, (edge b (l.getD j arr0).1.2.toNat i).1) ∈ l.map (·.1))

structure InvD (a b : M) (l : List Arr) : Prop where
  g : Good a b l
  z : 0 < l.length
  z0 : (l.getD 0 arr0).1 = (0, 0)
  w : ∀ r ∈ l, ∃ w, Wok a w ∧ aftM a 0 w = r.1.1 ∧ aftM b 0 w = r.1.2 ∧ runM a 0 w = runM b 0 w

theorem closed_add {a b : M} {l : List Arr} {at_ i : Nat} {x y : Int × Int} {j k : Nat} (hj : j < l.length) (h : closedAt a b l j k) : closedAt a b (addA l at_ i x y) j k := by
  unfold closedAt at *
  rw [addA_at hj]
  refine ⟨h.1, fun hx => ?_⟩
  have := h.2 hx
  unfold addA
  split
  · rw [List.map_append]; exact List.mem_append_left _ this
  · exact this

theorem mem_getD {l : List Arr} {j : Nat} (h : j < l.length) : l.getD j arr0 ∈ l := by
  have : l.getD j arr0 = l[j] := by simp [h]
  rw [this]; exact List.getElem_mem h

theorem InvD.edges {a b : M} (va : Valid a) (vb : Valid b) (hins : a.ins = b.ins) {l : List Arr} (h : InvD a b l) {at_ i : Nat} (ha : at_ < l.length) (hi : i < a.ins) :
    EdgeOk a (edge a (l.getD at_ arr0).1.1.toNat i) ∧ EdgeOk b (edge b (l.getD at_ arr0).1.2.toNat i) ∧ ∃ w, Wok a w ∧ runM a 0 w = runM b 0 w ∧ aftM a 0 (w ++ [i]) = (edge a (l.getD at_ arr0).1.1.toNat i).1 ∧ aftM b 0 (w ++ [i]) = (edge b (l.getD at_ arr0).1.2.toNat i).1 ∧ Wok a (w ++ [i]) ∧
      (runM a 0 (w ++ [i]) = runM b 0 (w ++ [i]) ↔ (edge a (l.getD at_ arr0).1.1.toNat i).2 = (edge b (l.getD at_ arr0).1.2.toNat i).2) := by
  have hm := mem_getD ha
  obtain ⟨r1, r2, r3, r4⟩ := h.g.rng _ hm
  obtain ⟨w, w1, w2, w3, w4⟩ := h.w _ hm
  generalize l.getD at_ arr0 = r at *
  refine ⟨edge_ok va (by omega) hi, edge_ok vb (by omega) (by omega), w, w1, w4, ?_, ?_, Wok.app.2 ⟨w1, Wok.cons.2 ⟨hi, Wok.nil⟩⟩, ?_⟩
  · rw [aft_app, w2, aftM, aftM, ← nextM_nat, Int.toNat_of_nonneg r1]
  · rw [aft_app, w3, aftM, aftM, ← nextM_nat, Int.toNat_of_nonneg r3]
  · rw [run_app, run_app, w4, w2, w3, runM, runM, runM, runM, ← nextM_nat, ← nextM_nat, Int.toNat_of_nonneg r1, Int.toNat_of_nonneg r3]
    constructor
    · intro e; exact (List.cons.inj (List.append_cancel_left e)).1
    · intro e; rw [e]

theorem inn_spec {a b : M} (va : Valid a) (vb : Valid b) (hins : a.ins = b.ins) {at_ : Nat} : ∀ (k : Nat) {l : List Arr}, k ≤ a.ins → InvD a b l → at_ < l.length → (∀ j, j < at_ → ∀ i, i < a.ins → closedAt a b l j i) → (∀ i, i < a.ins - k → closedAt a b l at_ i) →
    match innP a b at_ k l with
    | .inl l' => InvD a b l' ∧ l.length ≤ l'.length ∧ (∀ j, j < at_ + 1 → ∀ i, i < a.ins → closedAt a b l' j i)
    | .inr _ => ∃ w, Wok a w ∧ runM a 0 w ≠ runM b 0 w
  | 0, l, _, h, ha, hc, hc' => by
    rw [innP]
    refine ⟨h, Nat.le_refl _, fun j hj i hi => ?_⟩
    rcases Nat.lt_or_ge j at_ with hj' | hj'
    · exact hc j hj' i hi
    · have : j = at_ := by omega
      subst this; exact hc' i (by omega)
  | k + 1, l, hk, h, ha, hc, hc' => by
    have hi : a.ins - (k + 1) < a.ins := by omega
    obtain ⟨oka, okb, w, w1, w2, w3, w4, w5, w6⟩ := h.edges va vb hins ha hi
    rw [innP, stepP]
    by_cases he : (edge a (l.getD at_ arr0).1.1.toNat (a.ins - (k + 1))).2 = (edge b (l.getD at_ arr0).1.2.toNat (a.ins - (k + 1))).2
    · rw [if_pos he]
      simp only
      have hs := addA_len l at_ (a.ins - (k + 1)) (edge a (l.getD at_ arr0).1.1.toNat (a.ins - (k + 1))) (edge b (l.getD at_ arr0).1.2.toNat (a.ins - (k + 1)))
      have inv' : InvD a b (addA l at_ (a.ins - (k + 1)) (edge a (l.getD at_ arr0).1.1.toNat (a.ins - (k + 1))) (edge b (l.getD at_ arr0).1.2.toNat (a.ins - (k + 1)))) := by
        refine ⟨h.g.add ha oka okb he, by have := h.z; omega, by rw [addA_at h.z]; exact h.z0, fun r hr => ?_⟩
        unfold addA at hr
        split at hr
        · rcases List.mem_append.1 hr with hr | hr
          · exact h.w r hr
          · simp only [List.mem_singleton] at hr
            subst hr
            exact ⟨w ++ [a.ins - (k + 1)], w5, w3, w4, w6.2 he⟩
        · exact h.w r hr
      have ih := inn_spec va vb hins (at_ := at_) k (by omega) inv' (by omega) (fun j hj i hi => closed_add (by omega) (hc j hj i hi)) (by
        intro i hi2
        rcases Nat.lt_or_ge i (a.ins - (k + 1)) with hi' | hi'
        · exact closed_add ha (hc' i hi')
        · have : i = a.ins - (k + 1) := by omega
          subst this
          unfold closedAt
          rw [addA_at ha]
          refine ⟨he, fun hx => ?_⟩
          unfold addA
          split
          · rw [List.map_append]; exact List.mem_append_right _ (by simp)
          · rename_i hn
            exact Classical.byContradiction fun hne => hn ⟨hx, hne⟩)
      cases hin : innP a b at_ k (addA l at_ (a.ins - (k + 1)) (edge a (l.getD at_ arr0).1.1.toNat (a.ins - (k + 1))) (edge b (l.getD at_ arr0).1.2.toNat (a.ins - (k + 1)))) with
      | inl l' =>
        rw [hin] at ih
        simp only at ih ⊢
        exact ⟨ih.1, by omega, ih.2.2⟩
      | inr r => rw [hin] at ih; exact ih
    · rw [if_neg he]
      exact ⟨w ++ [a.ins - (k + 1)], w5, fun e => he (w6.1 e)⟩

theorem out_spec {a b : M} (va : Valid a) (vb : Valid b) (hins : a.ins = b.ins) : ∀ (k at_ : Nat) {l : List Arr}, InvD a b l → a.rows.length * b.rows.length ≤ at_ + k → (∀ j, j < at_ → j < l.length → ∀ i, i < a.ins → closedAt a b l j i) →
    match outP a b k at_ l with
    | .inl l' => InvD a b l' ∧ (∀ j, j < l'.length → ∀ i, i < a.ins → closedAt a b l' j i)
    | .inr _ => ∃ w, Wok a w ∧ runM a 0 w ≠ runM b 0 w
  | 0, at_, l, h, hk, hc => by
    rw [outP]
    have := h.g.len
    exact ⟨h, fun j hj => hc j (by omega) hj⟩
  | k + 1, at_, l, h, hk, hc => by
    rw [outP]
    by_cases ha : at_ < l.length
    · rw [if_pos ha]
      have hs := inn_spec va vb hins (at_ := at_) a.ins (Nat.le_refl _) h ha (fun j hj => hc j hj (by omega)) (fun i hi => by omega)
      cases hin : innP a b at_ a.ins l with
      | inl l' =>
        rw [hin] at hs
        simp only at hs ⊢
        exact out_spec va vb hins k (at_ + 1) hs.1 (by omega) (fun j hj _ => hs.2.2 j hj)
      | inr r => rw [hin] at hs; exact hs
    · rw [if_neg ha]
      exact ⟨h, fun j hj => hc j (by omega) hj⟩

theorem dif_iff {a b : M} (va : Valid a) (vb : Valid b) (hins : a.ins = b.ins) : difW a b = [] ↔ Eqv a b 0 0 := by
  have ar1 := va.r1
  have br1 := vb.r1
  have inv0 : InvD a b [arr0] := by
    refine ⟨⟨fun i hi => ?_, fun r hr => ?_, by simp⟩, by simp, rfl, fun r hr => ?_⟩
    · have : i = 0 := by simp at hi; omega
      subst this; exact .inl rfl
    · simp at hr; subst hr; exact ⟨by simp [arr0], by simp [arr0]; omega, by simp [arr0], by simp [arr0]; omega⟩
    · simp at hr; subst hr; exact ⟨[], Wok.nil, rfl, rfl, rfl⟩
  have hs := out_spec va vb hins (a.rows.length * b.rows.length) 0 inv0 (by omega) (fun j hj => by omega)
  change (match difR a b with | .inl l' => _ | .inr _ => _) at hs
  cases hd : difR a b with
  | inr r =>
    obtain ⟨l, at_, i⟩ := r
    rw [hd] at hs
    obtain ⟨w, hw, hne⟩ := hs
    exact ⟨fun e => absurd e (difW_inr hd), fun e => absurd (e w hw) hne⟩
  | inl l =>
    rw [hd] at hs
    obtain ⟨inv, hc⟩ := hs
    have hw : difW a b = [] := by simp only [difW, hd]
    refine ⟨fun _ => ?_, fun _ => hw⟩
    have key : ∀ (w : List Nat) (j : Nat), Wok a w → j < l.length → runM a (l.getD j arr0).1.1 w = runM b (l.getD j arr0).1.2 w := by
      intro w
      induction w with
      | nil => intro j _ _; rfl
      | cons i w ih =>
        intro j hw hj
        have hw' := Wok.cons.1 hw
        have hcj := hc j hj i hw'.1
        obtain ⟨oka, okb, _⟩ := inv.edges va vb hins hj hw'.1
        obtain ⟨r1, r2, r3, r4⟩ := inv.g.rng _ (mem_getD hj)
        have ea : nextM a (l.getD j arr0).1.1 i = edge a (l.getD j arr0).1.1.toNat i := by rw [← nextM_nat, Int.toNat_of_nonneg r1]
        have eb : nextM b (l.getD j arr0).1.2 i = edge b (l.getD j arr0).1.2.toNat i := by rw [← nextM_nat, Int.toNat_of_nonneg r3]
        rw [runM, runM, ea, eb, hcj.1]
        congr 1
        have hcl := hcj.2
        have hce := hcj.1
        generalize edge a (l.getD j arr0).1.1.toNat i = x at *
        generalize edge b (l.getD j arr0).1.2.toNat i = y at *
        by_cases hx : x.1 = -1
        · have h1 : x.1 < 0 := by omega
          exact run_neg a b w h1 (by rw [okb.sign, ← hce, ← oka.sign]; exact h1)
        · have := hcl hx
          obtain ⟨r, hr, e⟩ := List.mem_map.1 this
          obtain ⟨j', hj', e'⟩ := List.getElem_of_mem hr
          have hg : l.getD j' arr0 = r := by simp [hj', e']
          have := ih j' hw'.2 hj'
          rw [hg, e] at this
          exact this
    intro w hww
    have := key w 0 hww inv.z
    rw [inv.z0] at this
    exact this
end Go.Eng.E3

namespace Go.Eng.E3
open Go Go.Eng Go.Proofs
set_option maxRecDepth 100000
attribute [local simp] execR runOps stepOp wantedD evalOp opd upd St.put Eff.apply upds looseOk FP.free FP.idle apart Eff.fp ofVal loadD storeD partD setPart indexAddrD isShift arith unD callOp mapO D.okc pickD buildable buildD placeD convD
set_option linter.unusedSimpArgs false
set_option linter.unusedVariables false
set_option maxHeartbeats 4000000

theorem nats_of {l : List Int} {n : Nat} (h : ∀ x ∈ l, 0 ≤ x ∧ x < n) : ∃ w : List Nat, l = w.map Int.ofNat ∧ ∀ i ∈ w, i < n := by
  induction l with
  | nil => exact ⟨[], rfl, fun i h => by cases h⟩
  | cons x l ih =>
    obtain ⟨w, rfl, hw⟩ := ih fun y hy => h y (List.mem_cons_of_mem _ hy)
    have hx := h x (List.mem_cons_self ..)
    refine ⟨x.toNat :: w, by simp [Int.toNat_of_nonneg hx.1], fun i hi => ?_⟩
    rcases List.mem_cons.1 hi with rfl | hi
    · omega
    · exact hw i hi

theorem drawW_ok {es : List Int} {ins k : Nat} (he : ∀ e ∈ es, 0 ≤ e ∧ e < 256) (hi : 1 ≤ ins) : ∀ x ∈ drawW es ins k, 0 ≤ x ∧ x < ins := by
  intro x hx
  unfold drawW at hx
  obtain ⟨e, h1, rfl⟩ := List.mem_map.1 hx
  have := he e (List.mem_of_mem_take h1)
  exact ⟨Int.tmod_nonneg _ this.1, Int.tmod_lt_of_pos _ (by omega)⟩

theorem firsts_len (m : M) (j : Nat) : (firstsM m j).length ≤ m.rows.length := by
  have hol := ord_ok (lev m 0 j).l (lev m 0 j).is m.rows.length
  have := firstN_len (partM' m m.rows.length) (ordN (lev m 0 j).l (lev m 0 j).is m.rows.length) (ordN (lev m 0 j).l (lev m 0 j).is m.rows.length).length
  have := hol.2
  unfold firstsM; omega

theorem minR_len (m : M) (j : Nat) : (minR m j).length = (firstsM m j).length := by simp [minR, minRows]
theorem minR_row (m : M) (j : Nat) : ∀ r ∈ minR m j, r.length = m.ins := by
  intro r hr
  obtain ⟨k, _, rfl⟩ := List.mem_map.1 hr
  simp [minRow]

theorem bin4 (a b : Bool) : binD E.T .eql 4 (.bool a) (.bool b) = some (.bool (a == b)) := by
  simp [binD, eqD, eqDepth]

/-- What is drawn: two machines and a word. -/
theorem spec4 {st ins outs st' ins' outs' : Int} {p p' al : Bool} {es es' : List Int} {s0 s1 p0 p1 t0 o0 : Int} {a b : M} (va : Valid a) (vb : Valid b) (hins : a.ins = b.ins) (h17 : bodyR 17 [drawnD st ins outs p es st' ins' outs' p' es' al s0 s1 p0 p1 t0 o0] = some (.tup [encM a, encM b])) {ys : List Int} (hys : ∀ e ∈ ys, 0 ≤ e ∧ e < 256) :
    bodyR 4 [drawnD st ins outs p es st' ins' outs' p' es' al s0 s1 p0 p1 t0 o0, .agg [.frz (ys.map (D.int .u8)) .unk]] = some (.bool true) := by
  have c17 : ∀ h, callI E (.fn 17 []) [.agg [.int .u8 st, .int .u8 ins, .int .u8 outs, .bool p, .frz (es.map (D.int .u16)) .unk, .int .u8 st', .int .u8 ins', .int .u8 outs', .bool p', .frz (es'.map (D.int .u16)) .unk, .bool al, .int .u8 s0, .int .u8 s1, .int .u8 p0, .int .u8 p1, .int .i64 t0, .int .i64 o0]] h = some (.tup [.agg [.int .i64 a.ins, .int .i64 a.outs, .frz (a.rows.map rowD) .unk], .agg [.int .i64 b.ins, .int .i64 b.outs, .frz (b.rows.map rowD) .unk]], h, {}) := fun h =>
    call_pure (by decide) (snaps1 (by
      have e1 : ∀ l : List Int, snap (E.pol.args 17) h.blk (6 + 2) (.frz (l.map (D.int .u16)) .unk) = some (.frz (l.map (D.int .u16)) .unk, []) := fun l => by
        show (match mapK (snap false h.blk (6 + 1)) (l.map (D.int .u16)) with | some (ys, k) => some (D.frz ys _, k) | none => none) = _
        rw [mapK_map l fun x _ => rfl]
        rfl
      show (match mapK (snap (E.pol.args 17) h.blk (6 + 2)) _ with | some (ys, k) => some (D.agg ys, k) | none => none) = _
      simp only [mapK, e1]
      rfl)) h17
  have i1 := va.i1
  have i2 := va.i2
  have ar2 := va.r2
  have br2 := vb.r2
  have r18 := spec18 (es := ys) (ins := a.ins) hys i1 i2
  obtain ⟨w, hw, hwi⟩ := nats_of (drawW_ok (k := min ys.length 12) hys i1)
  rw [hw] at r18
  have hwl : w.length ≤ 12 := by
    have := congrArg List.length hw
    simp [drawW] at this
    omega
  have hwm : (w.map Int.ofNat).map (D.int .i64) = w.map natD := by simp [natD]
  rw [hwm] at r18
  have c18 : ∀ h, callI E (.fn 18 []) [.agg [.frz (ys.map (D.int .u8)) .unk], .int .i64 a.ins] h = some (.frz (w.map natD) (tkA (w.map Int.ofNat)), h, {}) := fun h =>
    call_pure (by decide) (snaps2 (by
      have e1 : snap (E.pol.args 18) h.blk (6 + 2) (.frz (ys.map (D.int .u8)) .unk) = some (.frz (ys.map (D.int .u8)) .unk, []) := by
        show (match mapK (snap false h.blk (6 + 1)) (ys.map (D.int .u8)) with | some (zs, k) => some (D.frz zs _, k) | none => none) = _
        rw [mapK_map ys fun x _ => rfl]
        rfl
      show (match mapK (snap (E.pol.args 18) h.blk (6 + 2)) [.frz (ys.map (D.int .u8)) .unk] with | some (zs, k) => some (D.agg zs, k) | none => none) = _
      simp only [mapK, e1]
      rfl) rfl) r18
  have c19 : ∀ h, callI E (.fn 19 []) [.agg [.int .i64 a.ins, .int .i64 a.outs, .frz (a.rows.map rowD) .unk], .agg [.int .i64 b.ins, .int .i64 b.outs, .frz (b.rows.map rowD) .unk]] h = some (.tup [.bool (decide (difW a b = [])), .int .i64 0], h, {}) := fun h =>
    call_pure (by decide) (snaps2 (snap_encM _ _ 4 a) (snap_encM _ _ 4 b)) (spec19 va vb hins)
  obtain ⟨j, hj, _, ra⟩ := spec20 va
  obtain ⟨j', hj', _, rb⟩ := spec20 vb
  have ka := (first_zero va hj).1
  have kb := (first_zero vb hj').1
  have ta : tkA (firstsM a j) = .unk := by
    cases hf : firstsM a j with
    | nil => rw [hf] at ka; simp at ka
    | cons _ _ => rfl
  have tb : tkA (firstsM b j') = .unk := by
    cases hf : firstsM b j' with
    | nil => rw [hf] at kb; simp at kb
    | cons _ _ => rfl
  rw [ta] at ra
  rw [tb] at rb
  change bodyR 20 [encM a] = some (.agg [.int .i64 a.ins, .int .i64 a.outs, .frz ((minR a j).map rowD) .unk]) at ra
  change bodyR 20 [encM b] = some (.agg [.int .i64 b.ins, .int .i64 b.outs, .frz ((minR b j').map rowD) .unk]) at rb
  have c20a : ∀ h, callI E (.fn 20 []) [.agg [.int .i64 a.ins, .int .i64 a.outs, .frz (a.rows.map rowD) .unk]] h = some (.agg [.int .i64 a.ins, .int .i64 a.outs, .frz ((minR a j).map rowD) .unk], h, {}) := fun h => call_pure (by decide) (snaps1 (snap_encM _ _ 4 a)) ra
  have c20b : ∀ h, callI E (.fn 20 []) [.agg [.int .i64 b.ins, .int .i64 b.outs, .frz (b.rows.map rowD) .unk]] h = some (.agg [.int .i64 b.ins, .int .i64 b.outs, .frz ((minR b j').map rowD) .unk], h, {}) := fun h => call_pure (by decide) (snaps1 (snap_encM _ _ 4 b)) rb
  have fa := firsts_len a j
  have la := minR_len a j
  have r16 := spec16 (a := ⟨a.ins, a.outs, minR a j⟩) (b := ⟨b.ins, a.outs, minR b j'⟩) (by simp only; omega) (fun r hr => by have := minR_row a j r hr; omega)
  have c16 : ∀ h, callI E (.fn 16 []) [.agg [.int .i64 a.ins, .int .i64 a.outs, .frz ((minR a j).map rowD) .unk], .agg [.int .i64 b.ins, .int .i64 a.outs, .frz ((minR b j').map rowD) .unk]] h = some (.bool (decide (difW a b = [])), h, {}) := fun h => by
    have hd : decide (a.ins = b.ins ∧ a.outs = a.outs ∧ minR a j = minR b j') = decide (difW a b = []) := by
      apply decide_eq_decide.2
      rw [dif_iff va vb hins, ← min_iff va vb hins hj hj']
      simp [hins]
    rw [← hd]
    exact call_pure (by decide) (snaps2 (snap_encM _ _ 4 ⟨a.ins, a.outs, minR a j⟩) (snap_encM _ _ 4 ⟨b.ins, a.outs, minR b j'⟩)) r16
  have c23 : ∀ h, callI E (.fn 23 []) [] h = some (.bool true, h, {}) := fun h => call_pure (by decide) rfl lives10
  have sw : ∀ (m : M) h, mapK (snap (E.pol.args 22) h snapDepth) [encM m, .int .i64 0, .frz (w.map natD) (tkA (w.map Int.ofNat))] = some ([encM m, .int .i64 0, .frz (w.map natD) .unk], []) := fun m h => by
    have hk : E.pol.args 22 = false := by decide
    rw [hk]
    have e1 := snap_word false h 7 w (tkA (w.map Int.ofNat))
    have f1 : (tkA (w.map Int.ofNat)).fade false = .unk := by cases w <;> rfl
    rw [f1, ← show snapDepth = 7 + 2 from rfl] at e1
    simp only [mapK, show snap false h snapDepth (encM m) = some (encM m, []) from snap_encM _ _ 4 m, e1]
    rfl
  have c22a : ∀ h, callI E (.fn 22 []) [.agg [.int .i64 a.ins, .int .i64 a.outs, .frz (a.rows.map rowD) .unk], .int .i64 0, .frz (w.map natD) (tkA (w.map Int.ofNat))] h = some (.frz ((runM a 0 w).map (D.int .i64)) (tkA w), h, {}) := fun h =>
    call_pure (by decide) (sw a _) (spec22 va (.inr ⟨by omega, by have := va.r1; omega⟩) hwi (by omega))
  have c22b : ∀ h, callI E (.fn 22 []) [.agg [.int .i64 b.ins, .int .i64 b.outs, .frz (b.rows.map rowD) .unk], .int .i64 0, .frz (w.map natD) (tkA (w.map Int.ofNat))] h = some (.frz ((runM b 0 w).map (D.int .i64)) (tkA w), h, {}) := fun h =>
    call_pure (by decide) (sw b _) (spec22 vb (.inr ⟨by omega, by have := vb.r1; omega⟩) (by rw [← hins]; exact hwi) (by omega))
  have c21 : difW a b = [] → ∀ h, callI E (.fn 21 []) [.frz ((runM a 0 w).map (D.int .i64)) (tkA w), .frz ((runM b 0 w).map (D.int .i64)) (tkA w)] h = some (.bool true, h, {}) := fun he h => by
    have hr := ((dif_iff va vb hins).1 he) w hwi
    have hb := spec21 (a := runM a 0 w) (b := runM b 0 w) (by rw [run_len]; omega)
    rw [decide_eq_true hr] at hb
    have hk : E.pol.args 21 = false := by decide
    have f1 : (tkA w).fade false = .unk := by cases w <;> rfl
    have e1 : ∀ l : List Int, snap false h.blk snapDepth (.frz (l.map (D.int .i64)) (tkA w)) = some (.frz (l.map (D.int .i64)) .unk, []) := fun l => by
      rw [show snapDepth = 7 + 2 from rfl, snap_ints, f1]
    exact call_pure (by decide) (by rw [hk]; simp only [mapK, e1]; rfl) hb
  refine bodyR_V (run4 _ _ (by simp)) ?_
  unfold b4
  refine .then xr4_0 (by simp [o4_0, builtinD, lenD, pD, argA, drawnD]; rfl) ?_
  refine .then xr4_1 (by simp [o4_1, builtinD, lenD, pD, argA, c17]; rfl) ?_
  refine .then xr4_2 (by simp [o4_2, builtinD, lenD, pD, argA, c18]; rfl) ?_
  refine .then xr4_3 (by simp [o4_3, builtinD, lenD, pD, argA, c19]; rfl) ?_
  refine .then xr4_4 (by simp [o4_4, builtinD, lenD, pD, argA, c20a, c20b]; rfl) ?_
  refine .then xr4_5 (by simp [o4_5, builtinD, lenD, pD, argA]; rfl) ?_
  by_cases he : difW a b = []
  · have c21' := c21 he
    refine .then xr4_6 (by simp [o4_6, builtinD, lenD, pD, argA, c16, c22a, c22b, c21', c23, he, bin4]; rfl) (.ret ⟨_, by simp [resultsD, mapO, resultD, upd]; rfl, by simp [snap, snapDepth]⟩)
  · refine .then xr4_6 (by simp [o4_6, builtinD, lenD, pD, argA, c16, c23, he, bin4]; rfl) (.ret ⟨_, by simp [resultsD, mapO, resultD, upd]; rfl, by simp [snap, snapDepth]⟩)

theorem bool_of_snap {kp : Bool} {blk : Nat → Blk} {b : Bool} : ∀ {n : Nat} {r : D}, (snap kp blk n r).map (·.1) = some (.bool b) → r = .bool b
  | 0, r, h => by cases h
  | n + 1, r, h => by
    cases r with
    | bool x =>
      have h' : some (D.bool x) = some (D.bool b) := h
      exact Option.some.inj h'
    | int k x => cases h
    | str s => cases h
    | nilp => cases h
    | nilfn => cases h
    | nilm => cases h
    | yld l => cases h
    | mp b => cases h
    | iref v =>
      have : Option.map (·.1) (match snap false blk n v with | some (y, k) => some (D.iref y, k) | none => none) = some (D.bool b) := h
      split at this <;> cases this
    | frz xs tk =>
      have : Option.map (·.1) (match mapK (snap false blk n) xs with | some (ys, k) => some (D.frz ys (tk.fade kp), k) | none => none) = some (D.bool b) := h
      split at this <;> cases this
    | agg cs =>
      have : Option.map (·.1) (match mapK (snap kp blk n) cs with | some (ys, k) => some (D.agg ys, k) | none => none) = some (D.bool b) := h
      split at this <;> cases this
    | tup cs =>
      have : Option.map (·.1) (match mapK (snap kp blk n) cs with | some (ys, k) => some (D.tup ys, k) | none => none) = some (D.bool b) := h
      split at this <;> cases this
    | fn f cs =>
      have : Option.map (·.1) (match mapK (snap kp blk n) cs with | some (ys, k) => some (D.fn f ys, k) | none => none) = some (D.bool b) := h
      split at this <;> cases this
    | sl b' esz off len ex =>
      have : Option.map (·.1) (match (blk b').row with | some (e, xs) => (if e = esz ∧ off + len ≤ xs.length then (match mapK (snap false blk n) ((xs.drop off).take len) with | some (ys, k) => some (D.frz ys (if kp && ex then .exact else .unk), b' :: k) | none => none) else none) | none => none) = some (D.bool b) := h
      split at this
      · split at this
        · split at this <;> cases this
        · cases this
      · cases this
    | ptr b' i o =>
      cases i with
      | succ i => cases h
      | zero =>
        cases o with
        | succ o => cases h
        | zero =>
          have : Option.map (·.1) (match (blk b').row with | some (_, [x]) => (match snap false blk n x with | some (y, k) => some (D.iref y, b' :: k) | none => none) | _ => none) = some (D.bool b) := h
          split at this
          · split at this <;> cases this
          · cases this

theorem bodyI_of_bodyR {g : FuncId} {args : List D} {b : Bool} (h : bodyR g args = some (.bool b)) : ∃ h', bodyI E g args H.empty = some (.bool b, h') := by
  unfold bodyR at h
  split at h
  · rename_i r h' hb
    exact ⟨h', by rw [hb, bool_of_snap h]⟩
  · cases h
end Go.Eng.E3

namespace Go.Eng.E3
open Go Go.Eng Go.Proofs
set_option maxRecDepth 100000
theorem und_3 : Try.prog.underlying 3 = some (TypeDesc.int IntKind.i64) := by kernel_rfl
theorem cel_3 : Try.prog.cellsOf 3 = 1 := by kernel_rfl
theorem agb_3 : aggB Try.prog 3 = false := by kernel_rfl
theorem und_4 : Try.prog.underlying 4 = some (TypeDesc.bool) := by kernel_rfl
theorem cel_4 : Try.prog.cellsOf 4 = 1 := by kernel_rfl
theorem agb_4 : aggB Try.prog 4 = false := by kernel_rfl
theorem und_5 : Try.prog.underlying 5 = some (TypeDesc.int IntKind.u8) := by kernel_rfl
theorem cel_5 : Try.prog.cellsOf 5 = 1 := by kernel_rfl
theorem agb_5 : aggB Try.prog 5 = false := by kernel_rfl
theorem und_77 : Try.prog.underlying 77 = some (TypeDesc.int IntKind.u16) := by kernel_rfl
theorem cel_77 : Try.prog.cellsOf 77 = 1 := by kernel_rfl
theorem agb_77 : aggB Try.prog 77 = false := by kernel_rfl
theorem und_22 : Try.prog.underlying 22 = some (TypeDesc.slice 5) := by kernel_rfl
theorem cel_22 : Try.prog.cellsOf 22 = 1 := by kernel_rfl
theorem agb_22 : aggB Try.prog 22 = false := by kernel_rfl
theorem und_23 : Try.prog.underlying 23 = some (TypeDesc.slice 77) := by kernel_rfl
theorem cel_23 : Try.prog.cellsOf 23 = 1 := by kernel_rfl
theorem agb_23 : aggB Try.prog 23 = false := by kernel_rfl
theorem und_53 : Try.prog.underlying 53 = some (TypeDesc.struct #[{ name := "States", type := 5, offset := 0, embedded := false, tag := "", pkgPath := "", byteOffset := 0 }, { name := "Inputs", type := 5, offset := 1, embedded := false, tag := "", pkgPath := "", byteOffset := 1 }, { name := "Outputs", type := 5, offset := 2, embedded := false, tag := "", pkgPath := "", byteOffset := 2 }, { name := "Partial", type := 4, offset := 3, embedded := false, tag := "", pkgPath := "", byteOffset := 3 }, { name := "Edges", type := 23, offset := 4, embedded := false, tag := "", pkgPath := "", byteOffset := 8 }]) := by kernel_rfl
theorem cel_53 : Try.prog.cellsOf 53 = 5 := by kernel_rfl
theorem agb_53 : aggB Try.prog 53 = true := by kernel_rfl
theorem und_57 : Try.prog.underlying 57 = some (TypeDesc.struct #[{ name := "M", type := 53, offset := 0, embedded := false, tag := "", pkgPath := "", byteOffset := 0 }, { name := "X", type := 53, offset := 5, embedded := false, tag := "", pkgPath := "", byteOffset := 32 }, { name := "Alike", type := 4, offset := 10, embedded := false, tag := "", pkgPath := "", byteOffset := 64 }, { name := "Swap", type := 31, offset := 11, embedded := false, tag := "", pkgPath := "", byteOffset := 65 }, { name := "Place", type := 31, offset := 13, embedded := false, tag := "", pkgPath := "", byteOffset := 67 }, { name := "To", type := 55, offset := 15, embedded := false, tag := "", pkgPath := "", byteOffset := 72 }]) := by kernel_rfl
theorem cel_57 : Try.prog.cellsOf 57 = 17 := by kernel_rfl
theorem agb_57 : aggB Try.prog 57 = true := by kernel_rfl
theorem und_59 : Try.prog.underlying 59 = some (TypeDesc.struct #[{ name := "Symbols", type := 22, offset := 0, embedded := false, tag := "", pkgPath := "", byteOffset := 0 }]) := by kernel_rfl
theorem cel_59 : Try.prog.cellsOf 59 = 1 := by kernel_rfl
theorem agb_59 : aggB Try.prog 59 = true := by kernel_rfl
theorem und_31 : Try.prog.underlying 31 = some (TypeDesc.array 2 5) := by kernel_rfl
theorem cel_31 : Try.prog.cellsOf 31 = 2 := by kernel_rfl
theorem agb_31 : aggB Try.prog 31 = true := by kernel_rfl
theorem und_55 : Try.prog.underlying 55 = some (TypeDesc.struct #[{ name := "To", type := 3, offset := 0, embedded := false, tag := "", pkgPath := "", byteOffset := 0 }, { name := "Out", type := 3, offset := 1, embedded := false, tag := "", pkgPath := "", byteOffset := 8 }]) := by kernel_rfl
theorem cel_55 : Try.prog.cellsOf 55 = 2 := by kernel_rfl
theorem agb_55 : aggB Try.prog 55 = true := by kernel_rfl
end Go.Eng.E3
