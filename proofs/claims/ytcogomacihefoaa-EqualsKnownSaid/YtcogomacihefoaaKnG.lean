import Derived.Test.YtcogomacihefoaaKnF
set_option linter.unusedVariables false
set_option linter.unusedSimpArgs false
set_option linter.unusedSectionVars false
set_option linter.deprecated false
namespace Go.Eng.E3
open Go Go.Eng Go.Proofs
set_option maxRecDepth 100000
noncomputable def r16_0 : Code := navF Try.f16 [0]
noncomputable def o16_0 : List Oper := [sop (some 2) (.box 34 (.tmp 0)) none,
    sop (some 3) (.box 34 (.tmp 1)) none,
    sop (some 4) (.assign (.const (.bool false))) none]
theorem xr16_0 : Xr 16 75 r16_0 o16_0 [] := execI_reg' (by kernel_rfl)
noncomputable def r16_1 : Code := navF Try.f16 [1, 0, 0]
noncomputable def o16_1 : List Oper := [sop (some 7) (.fieldAddr 34 (.tmp 2) 0) none,
    sop (some 8) (.load 3 (.tmp 7)) none,
    sop (some 9) (.fieldAddr 34 (.tmp 3) 0) none,
    sop (some 10) (.load 3 (.tmp 9)) none,
    sop (some 11) (.binOp .neq 3 (.tmp 8) (.tmp 10) 3) none,
    sop (some 12) (.move (.tmp 11)) none,
    sop (some 13) (.fieldAddr 34 (.tmp 2) 1) (some (5, false)),
    sop (some 14) (.load 3 (.tmp 13)) (some (5, false)),
    sop (some 15) (.fieldAddr 34 (.tmp 3) 1) (some (5, false)),
    sop (some 16) (.load 3 (.tmp 15)) (some (5, false)),
    sop (some 17) (.binOp .neq 3 (.tmp 14) (.tmp 16) 3) (some (5, false)),
    sop (some 18) (.pick (.tmp 12) (.const (.bool true)) (.tmp 17)) none,
    sop (some 19) (.move (.tmp 18)) none,
    sop (some 20) (.fieldAddr 34 (.tmp 2) 2) (some (12, false)),
    sop (some 21) (.load 32 (.tmp 20)) (some (12, false)),
    sop (some 22) (.call { callee := (.builtin .len), args := #[(.tmp 21)], argTypes := #[32] }) (some (12, false)),
    sop (some 23) (.fieldAddr 34 (.tmp 3) 2) (some (12, false)),
    sop (some 24) (.load 32 (.tmp 23)) (some (12, false)),
    sop (some 25) (.call { callee := (.builtin .len), args := #[(.tmp 24)], argTypes := #[32] }) (some (12, false)),
    sop (some 26) (.binOp .neq 3 (.tmp 22) (.tmp 25) 3) (some (12, false)),
    sop (some 27) (.pick (.tmp 19) (.const (.bool true)) (.tmp 26)) none]
theorem xr16_1 : Xr 16 75 r16_1 o16_1 [] := execI_reg' (by kernel_rfl)
noncomputable def r16_2 : Code := navF Try.f16 [1, 0, 1, 0, 0]
noncomputable def o16_2 : List Oper := [sop (some 4) (.assign (.const (.bool false))) none]
theorem xr16_2 : Xr 16 75 r16_2 o16_2 [] := execI_reg' (by kernel_rfl)
noncomputable def r16_3 : Code := navF Try.f16 [1, 1, 0, 0]
noncomputable def o16_3 : List Oper := [sop (some 5) (.assign (.const (.int .i64 0))) none]
theorem xr16_3 : Xr 16 75 r16_3 o16_3 [] := execI_reg' (by kernel_rfl)
noncomputable def l16_0 : Code := navF Try.f16 [1, 1, 0, 1, 0, 0]
noncomputable def r16_4 : Code := navF Try.f16 [1, 1, 0, 1, 0, 0, 0, 0]
noncomputable def o16_4 : List Oper := [sop (some 28) (.move (.tmp 5)) none,
    sop (some 29) (.fieldAddr 34 (.tmp 2) 2) none,
    sop (some 30) (.load 32 (.tmp 29)) none,
    sop (some 31) (.call { callee := (.builtin .len), args := #[(.tmp 30)], argTypes := #[32] }) none,
    sop (some 32) (.binOp .lss 3 (.tmp 28) (.tmp 31) 3) none]
theorem xr16_4 : Xr 16 75 r16_4 o16_4 [] := execI_reg' (by kernel_rfl)
noncomputable def r16_6 : Code := navF Try.f16 [1, 1, 0, 1, 0, 0, 1, 0, 0, 0, 0]
noncomputable def o16_6 : List Oper := [sop (some 35) (.fieldAddr 34 (.tmp 2) 2) none,
    sop (some 36) (.load 32 (.tmp 35)) none,
    sop (some 37) (.move (.tmp 5)) none,
    sop (some 38) (.indexAddr 32 (.tmp 36) (.tmp 37)) none,
    sop (some 39) (.load 72 (.tmp 38)) none,
    sop (some 40) (.call { callee := (.builtin .len), args := #[(.tmp 39)], argTypes := #[72] }) none,
    sop (some 41) (.fieldAddr 34 (.tmp 3) 2) none,
    sop (some 42) (.load 32 (.tmp 41)) none,
    sop (some 43) (.move (.tmp 5)) none,
    sop (some 44) (.indexAddr 32 (.tmp 42) (.tmp 43)) none,
    sop (some 45) (.load 72 (.tmp 44)) none,
    sop (some 46) (.call { callee := (.builtin .len), args := #[(.tmp 45)], argTypes := #[72] }) none,
    sop (some 47) (.binOp .neq 3 (.tmp 40) (.tmp 46) 3) none]
theorem xr16_6 : Xr 16 75 r16_6 o16_6 [(1, 7), (4, 7), (5, 7), (1, 10), (4, 10), (5, 10), (1, 11), (4, 11), (5, 11)] := execI_reg' (by kernel_rfl)
noncomputable def r16_7 : Code := navF Try.f16 [1, 1, 0, 1, 0, 0, 1, 0, 0, 0, 1, 0, 0]
noncomputable def o16_7 : List Oper := [sop (some 4) (.assign (.const (.bool false))) none]
theorem xr16_7 : Xr 16 75 r16_7 o16_7 [] := execI_reg' (by kernel_rfl)
noncomputable def r16_8 : Code := navF Try.f16 [1, 1, 0, 1, 0, 0, 1, 0, 0, 1, 0]
noncomputable def o16_8 : List Oper := [sop (some 6) (.assign (.const (.int .i64 0))) none]
theorem xr16_8 : Xr 16 75 r16_8 o16_8 [] := execI_reg' (by kernel_rfl)
noncomputable def l16_1 : Code := navF Try.f16 [1, 1, 0, 1, 0, 0, 1, 0, 0, 1, 1, 0, 0]
noncomputable def r16_9 : Code := navF Try.f16 [1, 1, 0, 1, 0, 0, 1, 0, 0, 1, 1, 0, 0, 0, 0]
noncomputable def o16_9 : List Oper := [sop (some 48) (.move (.tmp 6)) none,
    sop (some 49) (.fieldAddr 34 (.tmp 2) 2) none,
    sop (some 50) (.load 32 (.tmp 49)) none,
    sop (some 51) (.move (.tmp 5)) none,
    sop (some 52) (.indexAddr 32 (.tmp 50) (.tmp 51)) none,
    sop (some 53) (.load 72 (.tmp 52)) none,
    sop (some 54) (.call { callee := (.builtin .len), args := #[(.tmp 53)], argTypes := #[72] }) none,
    sop (some 55) (.binOp .lss 3 (.tmp 48) (.tmp 54) 3) none]
theorem xr16_9 : Xr 16 75 r16_9 o16_9 [] := execI_reg' (by kernel_rfl)
noncomputable def r16_11 : Code := navF Try.f16 [1, 1, 0, 1, 0, 0, 1, 0, 0, 1, 1, 0, 0, 1, 0, 0, 0]
noncomputable def o16_11 : List Oper := [sop (some 58) (.fieldAddr 34 (.tmp 2) 2) none,
    sop (some 59) (.load 32 (.tmp 58)) none,
    sop (some 60) (.move (.tmp 5)) none,
    sop (some 61) (.indexAddr 32 (.tmp 59) (.tmp 60)) none,
    sop (some 62) (.load 72 (.tmp 61)) none,
    sop (some 63) (.move (.tmp 6)) none,
    sop (some 64) (.indexAddr 72 (.tmp 62) (.tmp 63)) none,
    sop (some 65) (.load 55 (.tmp 64)) none,
    sop (some 66) (.fieldAddr 34 (.tmp 3) 2) none,
    sop (some 67) (.load 32 (.tmp 66)) none,
    sop (some 68) (.move (.tmp 5)) none,
    sop (some 69) (.indexAddr 32 (.tmp 67) (.tmp 68)) none,
    sop (some 70) (.load 72 (.tmp 69)) none,
    sop (some 71) (.move (.tmp 6)) none,
    sop (some 72) (.indexAddr 72 (.tmp 70) (.tmp 71)) none,
    sop (some 73) (.load 55 (.tmp 72)) none,
    sop (some 74) (.binOp .neq 55 (.tmp 65) (.tmp 73) 55) none]
theorem xr16_11 : Xr 16 75 r16_11 o16_11 [(1, 9), (4, 9), (7, 9), (1, 12), (4, 12), (7, 12), (1, 15), (4, 15), (7, 15)] := execI_reg' (by kernel_rfl)
noncomputable def r16_12 : Code := navF Try.f16 [1, 1, 0, 1, 0, 0, 1, 0, 0, 1, 1, 0, 0, 1, 0, 0, 1, 0, 0]
noncomputable def o16_12 : List Oper := [sop (some 4) (.assign (.const (.bool false))) none]
theorem xr16_12 : Xr 16 75 r16_12 o16_12 [] := execI_reg' (by kernel_rfl)
noncomputable def r16_10 : Code := navF Try.f16 [1, 1, 0, 1, 0, 0, 1, 0, 0, 1, 1, 0, 0, 1, 1]
noncomputable def o16_10 : List Oper := [sop (some 56) (.move (.tmp 6)) none,
    sop (some 57) (.binOp .add 3 (.tmp 56) (.const (.int .i64 1)) 3) none,
    sop (some 6) (.assign (.tmp 57)) none]
theorem xr16_10 : Xr 16 75 r16_10 o16_10 [] := execI_reg' (by kernel_rfl)
theorem cl16_1 : l16_1 = (.seq (.seq r16_9 (.cond (.tmp 55) .skip (.exit 2))) (.seq (.block 3 (.seq r16_11 (.cond (.tmp 74) (.seq r16_12 .ret) .skip))) r16_10)) := by kernel_rfl
noncomputable def r16_5 : Code := navF Try.f16 [1, 1, 0, 1, 0, 0, 1, 1]
noncomputable def o16_5 : List Oper := [sop (some 33) (.move (.tmp 5)) none,
    sop (some 34) (.binOp .add 3 (.tmp 33) (.const (.int .i64 1)) 3) none,
    sop (some 5) (.assign (.tmp 34)) none]
theorem xr16_5 : Xr 16 75 r16_5 o16_5 [] := execI_reg' (by kernel_rfl)
theorem cl16_0 : l16_0 = (.seq (.seq r16_4 (.cond (.tmp 32) .skip (.exit 0))) (.seq (.block 1 (.seq (.seq r16_6 (.cond (.tmp 47) (.seq r16_7 .ret) .skip)) (.seq r16_8 (.block 2 (.loop l16_1))))) r16_5)) := by kernel_rfl
noncomputable def r16_13 : Code := navF Try.f16 [1, 1, 1, 0]
noncomputable def o16_13 : List Oper := [sop (some 4) (.assign (.const (.bool true))) none]
theorem xr16_13 : Xr 16 75 r16_13 o16_13 [] := execI_reg' (by kernel_rfl)
noncomputable def b16 : Code := (.seq r16_0 (.seq (.seq r16_1 (.cond (.tmp 27) (.seq r16_2 .ret) .skip)) (.seq (.seq r16_3 (.block 0 (.loop l16_0))) (.seq r16_13 .ret))))
theorem body16 : Try.f16.body = some b16 := by kernel_rfl
theorem fn16 : E.fn 16 = some Try.f16 := by kernel_rfl
theorem run16 (args : List D) (h : H) (hl : args.length ≤ 75) : bodyI E 16 args h = resOf E [(.tmp 4)] (execI E 16 75 b16 ⟨argA args, h⟩) := bodyI_res fn16 body16 rfl rfl args h hl
noncomputable def r102_0 : Code := navF Try.f102 [0]
noncomputable def o102_0 : List Oper := [sop (some 4) (.assign (.const (.int .i64 0))) none]
theorem xr102_0 : Xr 102 40 r102_0 o102_0 [] := execI_reg' (by kernel_rfl)
noncomputable def r102_1 : Code := navF Try.f102 [1, 0, 0]
noncomputable def o102_1 : List Oper := [sop (some 6) (.move (.tmp 0)) none,
    sop (some 7) (.call { callee := (.builtin .len), args := #[(.tmp 6)], argTypes := #[62] }) none,
    sop (some 8) (.move (.tmp 1)) none,
    sop (some 9) (.call { callee := (.builtin .len), args := #[(.tmp 8)], argTypes := #[62] }) none,
    sop (some 10) (.binOp .neq 3 (.tmp 7) (.tmp 9) 3) none]
theorem xr102_1 : Xr 102 40 r102_1 o102_1 [] := execI_reg' (by kernel_rfl)
noncomputable def r102_2 : Code := navF Try.f102 [1, 0, 1, 0, 0, 0]
noncomputable def o102_2 : List Oper := [sop (some 11) (.move (.tmp 0)) none,
    sop (some 12) (.call { callee := (.builtin .len), args := #[(.tmp 11)], argTypes := #[62] }) none,
    sop (some 13) (.move (.tmp 1)) none,
    sop (some 14) (.call { callee := (.builtin .len), args := #[(.tmp 13)], argTypes := #[62] }) none,
    sop (some 15) (.binOp .lss 3 (.tmp 12) (.tmp 14) 3) none]
theorem xr102_2 : Xr 102 40 r102_2 o102_2 [] := execI_reg' (by kernel_rfl)
noncomputable def r102_3 : Code := navF Try.f102 [1, 0, 1, 0, 0, 1, 0, 0]
noncomputable def o102_3 : List Oper := [sop (some 4) (.assign (.const (.int .i64 1))) none]
theorem xr102_3 : Xr 102 40 r102_3 o102_3 [] := execI_reg' (by kernel_rfl)
noncomputable def r102_4 : Code := navF Try.f102 [1, 0, 1, 0, 1, 0]
noncomputable def o102_4 : List Oper := [sop (some 4) (.assign (.const (.int .i64 0))) none]
theorem xr102_4 : Xr 102 40 r102_4 o102_4 [] := execI_reg' (by kernel_rfl)
noncomputable def r102_5 : Code := navF Try.f102 [1, 1, 0, 0]
noncomputable def o102_5 : List Oper := [sop (some 5) (.assign (.const (.int .i64 0))) none]
theorem xr102_5 : Xr 102 40 r102_5 o102_5 [] := execI_reg' (by kernel_rfl)
noncomputable def l102_0 : Code := navF Try.f102 [1, 1, 0, 1, 0, 0]
noncomputable def r102_6 : Code := navF Try.f102 [1, 1, 0, 1, 0, 0, 0, 0]
noncomputable def o102_6 : List Oper := [sop (some 16) (.move (.tmp 5)) none,
    sop (some 17) (.move (.tmp 0)) none,
    sop (some 18) (.call { callee := (.builtin .len), args := #[(.tmp 17)], argTypes := #[62] }) none,
    sop (some 19) (.binOp .lss 3 (.tmp 16) (.tmp 18) 3) none]
theorem xr102_6 : Xr 102 40 r102_6 o102_6 [] := execI_reg' (by kernel_rfl)
noncomputable def r102_8 : Code := navF Try.f102 [1, 1, 0, 1, 0, 0, 1, 0, 0, 0]
noncomputable def o102_8 : List Oper := [sop (some 22) (.move (.tmp 0)) none,
    sop (some 23) (.move (.tmp 5)) none,
    sop (some 24) (.indexAddr 62 (.tmp 22) (.tmp 23)) none,
    sop (some 25) (.load 3 (.tmp 24)) none,
    sop (some 26) (.move (.tmp 1)) none,
    sop (some 27) (.move (.tmp 5)) none,
    sop (some 28) (.indexAddr 62 (.tmp 26) (.tmp 27)) none,
    sop (some 29) (.load 3 (.tmp 28)) none,
    sop (some 30) (.binOp .neq 3 (.tmp 25) (.tmp 29) 3) none]
theorem xr102_8 : Xr 102 40 r102_8 o102_8 [(3, 7)] := execI_reg' (by kernel_rfl)
noncomputable def r102_9 : Code := navF Try.f102 [1, 1, 0, 1, 0, 0, 1, 0, 0, 1, 0, 0, 0]
noncomputable def o102_9 : List Oper := [sop (some 31) (.move (.tmp 0)) none,
    sop (some 32) (.move (.tmp 5)) none,
    sop (some 33) (.indexAddr 62 (.tmp 31) (.tmp 32)) none,
    sop (some 34) (.load 3 (.tmp 33)) none,
    sop (some 35) (.move (.tmp 1)) none,
    sop (some 36) (.move (.tmp 5)) none,
    sop (some 37) (.indexAddr 62 (.tmp 35) (.tmp 36)) none,
    sop (some 38) (.load 3 (.tmp 37)) none,
    sop (some 39) (.binOp .lss 3 (.tmp 34) (.tmp 38) 3) none]
theorem xr102_9 : Xr 102 40 r102_9 o102_9 [(3, 7)] := execI_reg' (by kernel_rfl)
noncomputable def r102_10 : Code := navF Try.f102 [1, 1, 0, 1, 0, 0, 1, 0, 0, 1, 0, 0, 1, 0, 0]
noncomputable def o102_10 : List Oper := [sop (some 4) (.assign (.const (.int .i64 1))) none]
theorem xr102_10 : Xr 102 40 r102_10 o102_10 [] := execI_reg' (by kernel_rfl)
noncomputable def r102_11 : Code := navF Try.f102 [1, 1, 0, 1, 0, 0, 1, 0, 0, 1, 0, 1, 0]
noncomputable def o102_11 : List Oper := [sop (some 4) (.assign (.const (.int .i64 0))) none]
theorem xr102_11 : Xr 102 40 r102_11 o102_11 [] := execI_reg' (by kernel_rfl)
noncomputable def r102_7 : Code := navF Try.f102 [1, 1, 0, 1, 0, 0, 1, 1]
noncomputable def o102_7 : List Oper := [sop (some 20) (.move (.tmp 5)) none,
    sop (some 21) (.binOp .add 3 (.tmp 20) (.const (.int .i64 1)) 3) none,
    sop (some 5) (.assign (.tmp 21)) none]
theorem xr102_7 : Xr 102 40 r102_7 o102_7 [] := execI_reg' (by kernel_rfl)
theorem cl102_0 : l102_0 = (.seq (.seq r102_6 (.cond (.tmp 19) .skip (.exit 0))) (.seq (.block 1 (.seq r102_8 (.cond (.tmp 30) (.seq (.seq r102_9 (.cond (.tmp 39) (.seq r102_10 .ret) .skip)) (.seq r102_11 .ret)) .skip))) r102_7)) := by kernel_rfl
noncomputable def r102_12 : Code := navF Try.f102 [1, 1, 1, 0]
noncomputable def o102_12 : List Oper := [sop (some 4) (.assign (.const (.int .i64 0))) none]
theorem xr102_12 : Xr 102 40 r102_12 o102_12 [] := execI_reg' (by kernel_rfl)
noncomputable def b102 : Code := (.seq r102_0 (.seq (.seq r102_1 (.cond (.tmp 10) (.seq (.seq r102_2 (.cond (.tmp 15) (.seq r102_3 .ret) .skip)) (.seq r102_4 .ret)) .skip)) (.seq (.seq r102_5 (.block 0 (.loop l102_0))) (.seq r102_12 .ret))))
theorem body102 : Try.f102.body = some b102 := by kernel_rfl
theorem fn102 : E.fn 102 = some Try.f102 := by kernel_rfl
theorem run102 (args : List D) (h : H) (hl : args.length ≤ 40) : bodyI E 102 args h = resOf E [(.tmp 4)] (execI E 102 40 b102 ⟨argA args, h⟩) := bodyI_res fn102 body102 rfl rfl args h hl
noncomputable def r121_0 : Code := navF Try.f121 [0]
noncomputable def o121_0 : List Oper := [sop (some 3) (.box 34 (.tmp 0)) none,
    sop (some 6) (.assign (.const (.int .i64 0))) none]
theorem xr121_0 : Xr 121 22 r121_0 o121_0 [] := execI_reg' (by kernel_rfl)
noncomputable def r121_1 : Code := navF Try.f121 [1, 0, 0]
noncomputable def o121_1 : List Oper := [sop (some 7) (.move (.tmp 2)) none,
    sop (some 8) (.call { callee := (.builtin .len), args := #[(.tmp 7)], argTypes := #[62] }) none,
    sop (some 9) (.binOp .eql 3 (.tmp 8) (.const (.int .i64 0)) 3) none]
theorem xr121_1 : Xr 121 22 r121_1 o121_1 [] := execI_reg' (by kernel_rfl)
noncomputable def r121_2 : Code := navF Try.f121 [1, 0, 1, 0, 0]
noncomputable def o121_2 : List Oper := [sop (some 10) (.move (.tmp 1)) none,
    sop (some 6) (.assign (.tmp 10)) none]
theorem xr121_2 : Xr 121 22 r121_2 o121_2 [] := execI_reg' (by kernel_rfl)
noncomputable def r121_3 : Code := navF Try.f121 [1, 1, 0]
noncomputable def o121_3 : List Oper := [sop (some 11) (.load 34 (.tmp 3)) none,
    sop (some 12) (.load 34 (.tmp 3)) none,
    sop (some 13) (.move (.tmp 1)) none,
    sop (some 14) (.move (.tmp 2)) none,
    sop (some 15) (.indexAddr 62 (.tmp 14) (.const (.int .i64 0))) none,
    sop (some 16) (.load 3 (.tmp 15)) none,
    sop (some 17) (.call { callee := (.value (.func 54)), args := #[(.tmp 12), (.tmp 13), (.tmp 16)], argTypes := #[34, 3, 3] }) none,
    sop (some 18) (.field 55 (.tmp 17) 0) none,
    sop (some 19) (.move (.tmp 2)) none,
    sop (some 20) (.slice 62 (.tmp 19) (some (.const (.int .i64 1))) none none) none,
    sop (some 21) (.call { callee := (.value (.func 121)), args := #[(.tmp 11), (.tmp 18), (.tmp 20)], argTypes := #[34, 3, 62] }) none,
    sop (some 6) (.assign (.tmp 21)) none]
theorem xr121_3 : Xr 121 22 r121_3 o121_3 [(0, 1), (0, 5), (1, 5), (0, 6), (0, 9), (1, 9), (5, 9), (6, 9)] := execI_reg' (by kernel_rfl)
noncomputable def b121 : Code := (.seq r121_0 (.seq (.seq r121_1 (.cond (.tmp 9) (.seq r121_2 .ret) .skip)) (.seq r121_3 .ret)))
theorem body121 : Try.f121.body = some b121 := by kernel_rfl
theorem fn121 : E.fn 121 = some Try.f121 := by kernel_rfl
theorem run121 (args : List D) (h : H) (hl : args.length ≤ 22) : bodyI E 121 args h = resOf E [(.tmp 6)] (execI E 121 22 b121 ⟨argA args, h⟩) := bodyI_res fn121 body121 rfl rfl args h hl
noncomputable def r79_0 : Code := navF Try.f79 [0]
noncomputable def o79_0 : List Oper := [sop (some 2) (.box 34 (.tmp 0)) none,
    sop (some 4) (.assign (.const (.slice none 0 0))) none]
theorem xr79_0 : Xr 79 58 r79_0 o79_0 [] := execI_reg' (by kernel_rfl)
noncomputable def r79_1 : Code := navF Try.f79 [1, 0]
noncomputable def o79_1 : List Oper := [sop (some 10) (.fieldAddr 34 (.tmp 2) 2) none,
    sop (some 11) (.load 32 (.tmp 10)) none,
    sop (some 12) (.call { callee := (.builtin .len), args := #[(.tmp 11)], argTypes := #[32] }) none,
    sop (some 13) (.makeSlice 123 (.tmp 12) (.tmp 12)) none,
    sop (some 5) (.assign (.tmp 13)) none]
theorem xr79_1 : Xr 79 58 r79_1 o79_1 [] := execI_reg' (by kernel_rfl)
noncomputable def r79_2 : Code := navF Try.f79 [1, 1, 0]
noncomputable def o79_2 : List Oper := [sop (some 14) (.move (.tmp 5)) none,
    sop (some 15) (.move (.tmp 1)) none,
    sop (some 16) (.indexAddr 123 (.tmp 14) (.tmp 15)) none,
    sop none (.store 4 (.tmp 16) (.const (.bool true))) none]
theorem xr79_2 : Xr 79 58 r79_2 o79_2 [] := execI_reg' (by kernel_rfl)
noncomputable def r79_3 : Code := navF Try.f79 [1, 1, 1, 0, 0]
noncomputable def o79_3 : List Oper := [sop (some 6) (.assign (.const (.int .i64 0))) none]
theorem xr79_3 : Xr 79 58 r79_3 o79_3 [] := execI_reg' (by kernel_rfl)
noncomputable def l79_0 : Code := navF Try.f79 [1, 1, 1, 0, 1, 0, 0]
noncomputable def r79_4 : Code := navF Try.f79 [1, 1, 1, 0, 1, 0, 0, 0, 0]
noncomputable def o79_4 : List Oper := [sop (some 17) (.move (.tmp 6)) none,
    sop (some 18) (.fieldAddr 34 (.tmp 2) 2) none,
    sop (some 19) (.load 32 (.tmp 18)) none,
    sop (some 20) (.call { callee := (.builtin .len), args := #[(.tmp 19)], argTypes := #[32] }) none,
    sop (some 21) (.binOp .lss 3 (.tmp 17) (.tmp 20) 3) none]
theorem xr79_4 : Xr 79 58 r79_4 o79_4 [] := execI_reg' (by kernel_rfl)
noncomputable def r79_6 : Code := navF Try.f79 [1, 1, 1, 0, 1, 0, 0, 1, 0, 0, 0]
noncomputable def o79_6 : List Oper := [sop (some 7) (.assign (.const (.int .i64 0))) none]
theorem xr79_6 : Xr 79 58 r79_6 o79_6 [] := execI_reg' (by kernel_rfl)
noncomputable def l79_1 : Code := navF Try.f79 [1, 1, 1, 0, 1, 0, 0, 1, 0, 0, 1, 0, 0]
noncomputable def r79_7 : Code := navF Try.f79 [1, 1, 1, 0, 1, 0, 0, 1, 0, 0, 1, 0, 0, 0, 0]
noncomputable def o79_7 : List Oper := [sop (some 24) (.move (.tmp 7)) none,
    sop (some 25) (.fieldAddr 34 (.tmp 2) 2) none,
    sop (some 26) (.load 32 (.tmp 25)) none,
    sop (some 27) (.call { callee := (.builtin .len), args := #[(.tmp 26)], argTypes := #[32] }) none,
    sop (some 28) (.binOp .lss 3 (.tmp 24) (.tmp 27) 3) none]
theorem xr79_7 : Xr 79 58 r79_7 o79_7 [] := execI_reg' (by kernel_rfl)
noncomputable def r79_9 : Code := navF Try.f79 [1, 1, 1, 0, 1, 0, 0, 1, 0, 0, 1, 0, 0, 1, 0, 0, 0]
noncomputable def o79_9 : List Oper := [sop (some 8) (.assign (.const (.int .i64 0))) none]
theorem xr79_9 : Xr 79 58 r79_9 o79_9 [] := execI_reg' (by kernel_rfl)
noncomputable def l79_2 : Code := navF Try.f79 [1, 1, 1, 0, 1, 0, 0, 1, 0, 0, 1, 0, 0, 1, 0, 0, 1, 0, 0]
noncomputable def r79_10 : Code := navF Try.f79 [1, 1, 1, 0, 1, 0, 0, 1, 0, 0, 1, 0, 0, 1, 0, 0, 1, 0, 0, 0, 0]
noncomputable def o79_10 : List Oper := [sop (some 31) (.move (.tmp 8)) none,
    sop (some 32) (.fieldAddr 34 (.tmp 2) 0) none,
    sop (some 33) (.load 3 (.tmp 32)) none,
    sop (some 34) (.binOp .lss 3 (.tmp 31) (.tmp 33) 3) none]
theorem xr79_10 : Xr 79 58 r79_10 o79_10 [] := execI_reg' (by kernel_rfl)
noncomputable def r79_12 : Code := navF Try.f79 [1, 1, 1, 0, 1, 0, 0, 1, 0, 0, 1, 0, 0, 1, 0, 0, 1, 0, 0, 1, 0, 0, 0]
noncomputable def o79_12 : List Oper := [sop (some 37) (.fieldAddr 34 (.tmp 2) 2) none,
    sop (some 38) (.load 32 (.tmp 37)) none,
    sop (some 39) (.move (.tmp 7)) none,
    sop (some 40) (.indexAddr 32 (.tmp 38) (.tmp 39)) none,
    sop (some 41) (.load 72 (.tmp 40)) none,
    sop (some 42) (.move (.tmp 8)) none,
    sop (some 43) (.indexAddr 72 (.tmp 41) (.tmp 42)) none,
    sop (some 44) (.fieldAddr 55 (.tmp 43) 0) none,
    sop (some 45) (.load 3 (.tmp 44)) none,
    sop (some 9) (.assign (.tmp 45)) none]
theorem xr79_12 : Xr 79 58 r79_12 o79_12 [] := execI_reg' (by kernel_rfl)
noncomputable def r79_13 : Code := navF Try.f79 [1, 1, 1, 0, 1, 0, 0, 1, 0, 0, 1, 0, 0, 1, 0, 0, 1, 0, 0, 1, 0, 0, 1, 0]
noncomputable def o79_13 : List Oper := [sop (some 46) (.move (.tmp 5)) none,
    sop (some 47) (.move (.tmp 7)) none,
    sop (some 48) (.indexAddr 123 (.tmp 46) (.tmp 47)) none,
    sop (some 49) (.load 4 (.tmp 48)) none,
    sop (some 50) (.move (.tmp 49)) none,
    sop (some 51) (.move (.tmp 9)) (some (4, true)),
    sop (some 52) (.binOp .geq 3 (.tmp 51) (.const (.int .i64 0)) 3) (some (4, true)),
    sop (some 53) (.pick (.tmp 50) (.tmp 52) (.const (.bool false))) none]
theorem xr79_13 : Xr 79 58 r79_13 o79_13 [] := execI_reg' (by kernel_rfl)
noncomputable def r79_14 : Code := navF Try.f79 [1, 1, 1, 0, 1, 0, 0, 1, 0, 0, 1, 0, 0, 1, 0, 0, 1, 0, 0, 1, 0, 0, 1, 1, 0]
noncomputable def o79_14 : List Oper := [sop (some 54) (.move (.tmp 5)) none,
    sop (some 55) (.move (.tmp 9)) none,
    sop (some 56) (.indexAddr 123 (.tmp 54) (.tmp 55)) none,
    sop none (.store 4 (.tmp 56) (.const (.bool true))) none]
theorem xr79_14 : Xr 79 58 r79_14 o79_14 [] := execI_reg' (by kernel_rfl)
noncomputable def r79_11 : Code := navF Try.f79 [1, 1, 1, 0, 1, 0, 0, 1, 0, 0, 1, 0, 0, 1, 0, 0, 1, 0, 0, 1, 1]
noncomputable def o79_11 : List Oper := [sop (some 35) (.move (.tmp 8)) none,
    sop (some 36) (.binOp .add 3 (.tmp 35) (.const (.int .i64 1)) 3) none,
    sop (some 8) (.assign (.tmp 36)) none]
theorem xr79_11 : Xr 79 58 r79_11 o79_11 [] := execI_reg' (by kernel_rfl)
theorem cl79_2 : l79_2 = (.seq (.seq r79_10 (.cond (.tmp 34) .skip (.exit 4))) (.seq (.block 5 (.seq r79_12 (.seq r79_13 (.cond (.tmp 53) r79_14 .skip)))) r79_11)) := by kernel_rfl
noncomputable def r79_8 : Code := navF Try.f79 [1, 1, 1, 0, 1, 0, 0, 1, 0, 0, 1, 0, 0, 1, 1]
noncomputable def o79_8 : List Oper := [sop (some 29) (.move (.tmp 7)) none,
    sop (some 30) (.binOp .add 3 (.tmp 29) (.const (.int .i64 1)) 3) none,
    sop (some 7) (.assign (.tmp 30)) none]
theorem xr79_8 : Xr 79 58 r79_8 o79_8 [] := execI_reg' (by kernel_rfl)
theorem cl79_1 : l79_1 = (.seq (.seq r79_7 (.cond (.tmp 28) .skip (.exit 2))) (.seq (.block 3 (.seq r79_9 (.block 4 (.loop l79_2)))) r79_8)) := by kernel_rfl
noncomputable def r79_5 : Code := navF Try.f79 [1, 1, 1, 0, 1, 0, 0, 1, 1]
noncomputable def o79_5 : List Oper := [sop (some 22) (.move (.tmp 6)) none,
    sop (some 23) (.binOp .add 3 (.tmp 22) (.const (.int .i64 1)) 3) none,
    sop (some 6) (.assign (.tmp 23)) none]
theorem xr79_5 : Xr 79 58 r79_5 o79_5 [] := execI_reg' (by kernel_rfl)
theorem cl79_0 : l79_0 = (.seq (.seq r79_4 (.cond (.tmp 21) .skip (.exit 0))) (.seq (.block 1 (.seq r79_6 (.block 2 (.loop l79_1)))) r79_5)) := by kernel_rfl
noncomputable def r79_15 : Code := navF Try.f79 [1, 1, 1, 1, 0]
noncomputable def o79_15 : List Oper := [sop (some 57) (.move (.tmp 5)) none,
    sop (some 4) (.assign (.tmp 57)) none]
theorem xr79_15 : Xr 79 58 r79_15 o79_15 [] := execI_reg' (by kernel_rfl)
noncomputable def b79 : Code := (.seq r79_0 (.seq r79_1 (.seq r79_2 (.seq (.seq r79_3 (.block 0 (.loop l79_0))) (.seq r79_15 .ret)))))
theorem body79 : Try.f79.body = some b79 := by kernel_rfl
theorem fn79 : E.fn 79 = some Try.f79 := by kernel_rfl
theorem run79 (args : List D) (h : H) (hl : args.length ≤ 58) : bodyI E 79 args h = resOf E [(.tmp 4)] (execI E 79 58 b79 ⟨argA args, h⟩) := bodyI_res fn79 body79 rfl rfl args h hl
noncomputable def r98_0 : Code := navF Try.f98 [0]
noncomputable def o98_0 : List Oper := [sop (some 2) (.box 34 (.tmp 0)) none,
    sop (some 4) (.assign (.const (.slice none 0 0))) none,
    sop (some 5) (.assign (.const (.slice none 0 0))) none]
theorem xr98_0 : Xr 98 84 r98_0 o98_0 [] := execI_reg' (by kernel_rfl)
noncomputable def r98_1 : Code := navF Try.f98 [1, 0]
noncomputable def o98_1 : List Oper := [sop (some 13) (.fieldAddr 34 (.tmp 2) 2) none,
    sop (some 14) (.load 32 (.tmp 13)) none,
    sop (some 15) (.call { callee := (.builtin .len), args := #[(.tmp 14)], argTypes := #[32] }) none,
    sop (some 16) (.makeSlice 37 (.tmp 15) (.tmp 15)) none,
    sop (some 6) (.assign (.tmp 16)) none]
theorem xr98_1 : Xr 98 84 r98_1 o98_1 [] := execI_reg' (by kernel_rfl)
noncomputable def r98_2 : Code := navF Try.f98 [1, 1, 0]
noncomputable def o98_2 : List Oper := [sop (some 17) (.fieldAddr 34 (.tmp 2) 2) none,
    sop (some 18) (.load 32 (.tmp 17)) none,
    sop (some 19) (.call { callee := (.builtin .len), args := #[(.tmp 18)], argTypes := #[32] }) none,
    sop (some 20) (.makeSlice 123 (.tmp 19) (.tmp 19)) none,
    sop (some 7) (.assign (.tmp 20)) none]
theorem xr98_2 : Xr 98 84 r98_2 o98_2 [] := execI_reg' (by kernel_rfl)
noncomputable def r98_3 : Code := navF Try.f98 [1, 1, 1, 0]
noncomputable def o98_3 : List Oper := [sop (some 21) (.buildSlice 62 0 #[]) none,
    sop (some 22) (.buildSlice 37 1 #[(0, (.tmp 21))]) none,
    sop (some 8) (.assign (.tmp 22)) none]
theorem xr98_3 : Xr 98 84 r98_3 o98_3 [] := execI_reg' (by kernel_rfl)
noncomputable def l98_0 : Code := navF Try.f98 [1, 1, 1, 1, 0, 0, 0]
noncomputable def r98_4 : Code := navF Try.f98 [1, 1, 1, 1, 0, 0, 0, 0, 0]
noncomputable def o98_4 : List Oper := [sop (some 23) (.move (.tmp 8)) none,
    sop (some 24) (.call { callee := (.builtin .len), args := #[(.tmp 23)], argTypes := #[37] }) none,
    sop (some 25) (.binOp .gtr 3 (.tmp 24) (.const (.int .i64 0)) 3) none,
    sop (some 26) (.move (.tmp 25)) none,
    sop (some 27) (.fieldAddr 34 (.tmp 2) 2) (some (3, true)),
    sop (some 28) (.load 32 (.tmp 27)) (some (3, true)),
    sop (some 29) (.call { callee := (.builtin .len), args := #[(.tmp 28)], argTypes := #[32] }) (some (3, true)),
    sop (some 30) (.binOp .gtr 3 (.tmp 29) (.const (.int .i64 0)) 3) (some (3, true)),
    sop (some 31) (.pick (.tmp 26) (.tmp 30) (.const (.bool false))) none]
theorem xr98_4 : Xr 98 84 r98_4 o98_4 [] := execI_reg' (by kernel_rfl)
noncomputable def r98_5 : Code := navF Try.f98 [1, 1, 1, 1, 0, 0, 0, 1, 0, 0]
noncomputable def o98_5 : List Oper := [sop (some 9) (.assign (.const (.slice none 0 0))) none]
theorem xr98_5 : Xr 98 84 r98_5 o98_5 [] := execI_reg' (by kernel_rfl)
noncomputable def r98_6 : Code := navF Try.f98 [1, 1, 1, 1, 0, 0, 0, 1, 0, 1, 0, 0]
noncomputable def o98_6 : List Oper := [sop (some 10) (.assign (.const (.int .i64 0))) none]
theorem xr98_6 : Xr 98 84 r98_6 o98_6 [] := execI_reg' (by kernel_rfl)
noncomputable def l98_1 : Code := navF Try.f98 [1, 1, 1, 1, 0, 0, 0, 1, 0, 1, 0, 1, 0, 0]
noncomputable def r98_7 : Code := navF Try.f98 [1, 1, 1, 1, 0, 0, 0, 1, 0, 1, 0, 1, 0, 0, 0, 0]
noncomputable def o98_7 : List Oper := [sop (some 32) (.move (.tmp 10)) none,
    sop (some 33) (.move (.tmp 8)) none,
    sop (some 34) (.call { callee := (.builtin .len), args := #[(.tmp 33)], argTypes := #[37] }) none,
    sop (some 35) (.binOp .lss 3 (.tmp 32) (.tmp 34) 3) none]
theorem xr98_7 : Xr 98 84 r98_7 o98_7 [] := execI_reg' (by kernel_rfl)
noncomputable def r98_9 : Code := navF Try.f98 [1, 1, 1, 1, 0, 0, 0, 1, 0, 1, 0, 1, 0, 0, 1, 0, 0, 0]
noncomputable def o98_9 : List Oper := [sop (some 38) (.load 34 (.tmp 2)) none,
    sop (some 39) (.move (.tmp 1)) none,
    sop (some 40) (.move (.tmp 8)) none,
    sop (some 41) (.move (.tmp 10)) none,
    sop (some 42) (.indexAddr 37 (.tmp 40) (.tmp 41)) none,
    sop (some 43) (.load 62 (.tmp 42)) none,
    sop (some 44) (.call { callee := (.value (.func 121)), args := #[(.tmp 38), (.tmp 39), (.tmp 43)], argTypes := #[34, 3, 62] }) none,
    sop (some 11) (.assign (.tmp 44)) none]
theorem xr98_9 : Xr 98 84 r98_9 o98_9 [(0, 5)] := execI_reg' (by kernel_rfl)
noncomputable def r98_10 : Code := navF Try.f98 [1, 1, 1, 1, 0, 0, 0, 1, 0, 1, 0, 1, 0, 0, 1, 0, 0, 1, 0, 0]
noncomputable def o98_10 : List Oper := [sop (some 45) (.move (.tmp 11)) none,
    sop (some 46) (.binOp .lss 3 (.tmp 45) (.const (.int .i64 0)) 3) none,
    sop (some 47) (.move (.tmp 46)) none,
    sop (some 48) (.move (.tmp 7)) (some (2, false)),
    sop (some 49) (.move (.tmp 11)) (some (2, false)),
    sop (some 50) (.indexAddr 123 (.tmp 48) (.tmp 49)) (some (2, false)),
    sop (some 51) (.load 4 (.tmp 50)) (some (2, false)),
    sop (some 52) (.pick (.tmp 47) (.const (.bool true)) (.tmp 51)) none]
theorem xr98_10 : Xr 98 84 r98_10 o98_10 [] := execI_reg' (by kernel_rfl)
noncomputable def r98_11 : Code := navF Try.f98 [1, 1, 1, 1, 0, 0, 0, 1, 0, 1, 0, 1, 0, 0, 1, 0, 0, 1, 1, 0]
noncomputable def o98_11 : List Oper := [sop (some 53) (.move (.tmp 7)) none,
    sop (some 54) (.move (.tmp 11)) none,
    sop (some 55) (.indexAddr 123 (.tmp 53) (.tmp 54)) none,
    sop none (.store 4 (.tmp 55) (.const (.bool true))) none]
theorem xr98_11 : Xr 98 84 r98_11 o98_11 [] := execI_reg' (by kernel_rfl)
noncomputable def r98_12 : Code := navF Try.f98 [1, 1, 1, 1, 0, 0, 0, 1, 0, 1, 0, 1, 0, 0, 1, 0, 0, 1, 1, 1, 0]
noncomputable def o98_12 : List Oper := [sop (some 56) (.move (.tmp 6)) none,
    sop (some 57) (.move (.tmp 11)) none,
    sop (some 58) (.move (.tmp 8)) none,
    sop (some 59) (.move (.tmp 10)) none,
    sop (some 60) (.indexAddr 37 (.tmp 58) (.tmp 59)) none,
    sop (some 61) (.load 62 (.tmp 60)) none,
    sop (some 62) (.indexAddr 37 (.tmp 56) (.tmp 57)) none,
    sop none (.store 62 (.tmp 62) (.tmp 61)) none]
theorem xr98_12 : Xr 98 84 r98_12 o98_12 [] := execI_reg' (by kernel_rfl)
noncomputable def r98_13 : Code := navF Try.f98 [1, 1, 1, 1, 0, 0, 0, 1, 0, 1, 0, 1, 0, 0, 1, 0, 0, 1, 1, 1, 1, 0]
noncomputable def o98_13 : List Oper := [sop (some 12) (.assign (.const (.int .i64 0))) none]
theorem xr98_13 : Xr 98 84 r98_13 o98_13 [] := execI_reg' (by kernel_rfl)
noncomputable def l98_2 : Code := navF Try.f98 [1, 1, 1, 1, 0, 0, 0, 1, 0, 1, 0, 1, 0, 0, 1, 0, 0, 1, 1, 1, 1, 1, 0, 0]
noncomputable def r98_14 : Code := navF Try.f98 [1, 1, 1, 1, 0, 0, 0, 1, 0, 1, 0, 1, 0, 0, 1, 0, 0, 1, 1, 1, 1, 1, 0, 0, 0, 0]
noncomputable def o98_14 : List Oper := [sop (some 63) (.move (.tmp 12)) none,
    sop (some 64) (.fieldAddr 34 (.tmp 2) 0) none,
    sop (some 65) (.load 3 (.tmp 64)) none,
    sop (some 66) (.binOp .lss 3 (.tmp 63) (.tmp 65) 3) none]
theorem xr98_14 : Xr 98 84 r98_14 o98_14 [] := execI_reg' (by kernel_rfl)
noncomputable def r98_16 : Code := navF Try.f98 [1, 1, 1, 1, 0, 0, 0, 1, 0, 1, 0, 1, 0, 0, 1, 0, 0, 1, 1, 1, 1, 1, 0, 0, 1, 0, 0]
noncomputable def o98_16 : List Oper := [sop (some 69) (.move (.tmp 9)) none,
    sop (some 70) (.buildSlice 62 0 #[]) none,
    sop (some 71) (.move (.tmp 8)) none,
    sop (some 72) (.move (.tmp 10)) none,
    sop (some 73) (.indexAddr 37 (.tmp 71) (.tmp 72)) none,
    sop (some 74) (.load 62 (.tmp 73)) none,
    sop (some 75) (.call { callee := (.builtin .append), args := #[(.tmp 70), (.tmp 74)], argTypes := #[62, 62] }) none,
    sop (some 76) (.move (.tmp 12)) none,
    sop (some 77) (.buildSlice 62 1 #[(0, (.tmp 76))]) none,
    sop (some 78) (.call { callee := (.builtin .append), args := #[(.tmp 75), (.tmp 77)], argTypes := #[62, 62] }) none,
    sop (some 79) (.buildSlice 37 1 #[(0, (.tmp 78))]) none,
    sop (some 80) (.call { callee := (.builtin .append), args := #[(.tmp 69), (.tmp 79)], argTypes := #[37, 37] }) none,
    sop (some 9) (.assign (.tmp 80)) none]
theorem xr98_16 : Xr 98 84 r98_16 o98_16 [] := execI_reg' (by kernel_rfl)
noncomputable def r98_15 : Code := navF Try.f98 [1, 1, 1, 1, 0, 0, 0, 1, 0, 1, 0, 1, 0, 0, 1, 0, 0, 1, 1, 1, 1, 1, 0, 0, 1, 1]
noncomputable def o98_15 : List Oper := [sop (some 67) (.move (.tmp 12)) none,
    sop (some 68) (.binOp .add 3 (.tmp 67) (.const (.int .i64 1)) 3) none,
    sop (some 12) (.assign (.tmp 68)) none]
theorem xr98_15 : Xr 98 84 r98_15 o98_15 [] := execI_reg' (by kernel_rfl)
theorem cl98_2 : l98_2 = (.seq (.seq r98_14 (.cond (.tmp 66) .skip (.exit 4))) (.seq (.block 5 r98_16) r98_15)) := by kernel_rfl
noncomputable def r98_8 : Code := navF Try.f98 [1, 1, 1, 1, 0, 0, 0, 1, 0, 1, 0, 1, 0, 0, 1, 1]
noncomputable def o98_8 : List Oper := [sop (some 36) (.move (.tmp 10)) none,
    sop (some 37) (.binOp .add 3 (.tmp 36) (.const (.int .i64 1)) 3) none,
    sop (some 10) (.assign (.tmp 37)) none]
theorem xr98_8 : Xr 98 84 r98_8 o98_8 [] := execI_reg' (by kernel_rfl)
theorem cl98_1 : l98_1 = (.seq (.seq r98_7 (.cond (.tmp 35) .skip (.exit 2))) (.seq (.block 3 (.seq r98_9 (.seq (.seq r98_10 (.cond (.tmp 52) (.exit 3) .skip)) (.seq r98_11 (.seq r98_12 (.seq r98_13 (.block 4 (.loop l98_2)))))))) r98_8)) := by kernel_rfl
noncomputable def r98_17 : Code := navF Try.f98 [1, 1, 1, 1, 0, 0, 0, 1, 0, 1, 1]
noncomputable def o98_17 : List Oper := [sop (some 81) (.move (.tmp 9)) none,
    sop (some 8) (.assign (.tmp 81)) none]
theorem xr98_17 : Xr 98 84 r98_17 o98_17 [] := execI_reg' (by kernel_rfl)
theorem cl98_0 : l98_0 = (.seq (.seq r98_4 (.cond (.tmp 31) .skip (.exit 0))) (.block 1 (.seq r98_5 (.seq (.seq r98_6 (.block 2 (.loop l98_1))) r98_17)))) := by kernel_rfl
noncomputable def r98_18 : Code := navF Try.f98 [1, 1, 1, 1, 1, 0]
noncomputable def o98_18 : List Oper := [sop (some 82) (.move (.tmp 6)) none,
    sop (some 83) (.move (.tmp 7)) none,
    sop (some 4) (.assign (.tmp 82)) none,
    sop (some 5) (.assign (.tmp 83)) none]
theorem xr98_18 : Xr 98 84 r98_18 o98_18 [] := execI_reg' (by kernel_rfl)
noncomputable def b98 : Code := (.seq r98_0 (.seq r98_1 (.seq r98_2 (.seq r98_3 (.seq (.block 0 (.loop l98_0)) (.seq r98_18 .ret))))))
theorem body98 : Try.f98.body = some b98 := by kernel_rfl
theorem fn98 : E.fn 98 = some Try.f98 := by kernel_rfl
theorem run98 (args : List D) (h : H) (hl : args.length ≤ 84) : bodyI E 98 args h = resOf E [(.tmp 4), (.tmp 5)] (execI E 98 84 b98 ⟨argA args, h⟩) := bodyI_res fn98 body98 rfl rfl args h hl
noncomputable def r71_0 : Code := navF Try.f71 [0]
noncomputable def o71_0 : List Oper := [sop (some 1) (.box 34 (.tmp 0)) none,
    sop (some 2) (.assign (.const (.slice none 0 0))) none,
    sop (some 3) (.assign (.const (.slice none 0 0))) none]
theorem xr71_0 : Xr 71 8 r71_0 o71_0 [] := execI_reg' (by kernel_rfl)
noncomputable def r71_1 : Code := navF Try.f71 [1, 0]
noncomputable def o71_1 : List Oper := [sop (some 4) (.load 34 (.tmp 1)) none,
    sop (some 5) (.call { callee := (.value (.func 98)), args := #[(.tmp 4), (.const (.int .i64 0))], argTypes := #[34, 3] }) none,
    sop (some 6) (.extract (.tmp 5) 0) none,
    sop (some 7) (.extract (.tmp 5) 1) none,
    sop (some 2) (.assign (.tmp 6)) none,
    sop (some 3) (.assign (.tmp 7)) none]
theorem xr71_1 : Xr 71 8 r71_1 o71_1 [] := execI_reg' (by kernel_rfl)
noncomputable def b71 : Code := (.seq r71_0 (.seq r71_1 .ret))
theorem body71 : Try.f71.body = some b71 := by kernel_rfl
theorem fn71 : E.fn 71 = some Try.f71 := by kernel_rfl
theorem run71 (args : List D) (h : H) (hl : args.length ≤ 8) : bodyI E 71 args h = resOf E [(.tmp 2), (.tmp 3)] (execI E 71 8 b71 ⟨argA args, h⟩) := bodyI_res fn71 body71 rfl rfl args h hl
noncomputable def r78_0 : Code := navF Try.f78 [0]
noncomputable def o78_0 : List Oper := [sop (some 1) (.box 34 (.tmp 0)) none,
    sop (some 2) (.assign (.const (.slice none 0 0))) none]
theorem xr78_0 : Xr 78 61 r78_0 o78_0 [] := execI_reg' (by kernel_rfl)
noncomputable def r78_1 : Code := navF Try.f78 [1, 0]
noncomputable def o78_1 : List Oper := [sop (some 10) (.load 34 (.tmp 1)) none,
    sop (some 11) (.call { callee := (.value (.func 71)), args := #[(.tmp 10)], argTypes := #[34] }) none,
    sop (some 9) (.move (.tmp 11)) none,
    sop (some 12) (.extract (.tmp 9) 0) none,
    sop (some 13) (.extract (.tmp 9) 1) none,
    sop (some 3) (.assign (.tmp 12)) none,
    sop (some 4) (.assign (.tmp 13)) none]
theorem xr78_1 : Xr 78 61 r78_1 o78_1 [] := execI_reg' (by kernel_rfl)
noncomputable def r78_2 : Code := navF Try.f78 [1, 1, 0]
noncomputable def o78_2 : List Oper := [sop (some 5) (.assign (.const (.slice none 0 0))) none]
theorem xr78_2 : Xr 78 61 r78_2 o78_2 [] := execI_reg' (by kernel_rfl)
noncomputable def r78_3 : Code := navF Try.f78 [1, 1, 1, 0, 0]
noncomputable def o78_3 : List Oper := [sop (some 6) (.assign (.const (.int .i64 0))) none]
theorem xr78_3 : Xr 78 61 r78_3 o78_3 [] := execI_reg' (by kernel_rfl)
noncomputable def l78_0 : Code := navF Try.f78 [1, 1, 1, 0, 1, 0, 0]
noncomputable def r78_4 : Code := navF Try.f78 [1, 1, 1, 0, 1, 0, 0, 0, 0]
noncomputable def o78_4 : List Oper := [sop (some 14) (.move (.tmp 6)) none,
    sop (some 15) (.move (.tmp 3)) none,
    sop (some 16) (.call { callee := (.builtin .len), args := #[(.tmp 15)], argTypes := #[37] }) none,
    sop (some 17) (.binOp .lss 3 (.tmp 14) (.tmp 16) 3) none]
theorem xr78_4 : Xr 78 61 r78_4 o78_4 [] := execI_reg' (by kernel_rfl)
noncomputable def r78_6 : Code := navF Try.f78 [1, 1, 1, 0, 1, 0, 0, 1, 0, 0, 0, 0]
noncomputable def o78_6 : List Oper := [sop (some 20) (.move (.tmp 4)) none,
    sop (some 21) (.move (.tmp 6)) none,
    sop (some 22) (.indexAddr 123 (.tmp 20) (.tmp 21)) none,
    sop (some 23) (.load 4 (.tmp 22)) none,
    sop (some 24) (.unOp .not 4 (.tmp 23)) none]
theorem xr78_6 : Xr 78 61 r78_6 o78_6 [] := execI_reg' (by kernel_rfl)
noncomputable def r78_7 : Code := navF Try.f78 [1, 1, 1, 0, 1, 0, 0, 1, 0, 0, 1, 0]
noncomputable def o78_7 : List Oper := [sop (some 7) (.assign (.const (.int .i64 0))) none]
theorem xr78_7 : Xr 78 61 r78_7 o78_7 [] := execI_reg' (by kernel_rfl)
noncomputable def l78_1 : Code := navF Try.f78 [1, 1, 1, 0, 1, 0, 0, 1, 0, 0, 1, 1, 0, 0, 0]
noncomputable def r78_8 : Code := navF Try.f78 [1, 1, 1, 0, 1, 0, 0, 1, 0, 0, 1, 1, 0, 0, 0, 0, 0]
noncomputable def o78_8 : List Oper := [sop (some 25) (.move (.tmp 7)) none,
    sop (some 26) (.move (.tmp 5)) none,
    sop (some 27) (.call { callee := (.builtin .len), args := #[(.tmp 26)], argTypes := #[62] }) none,
    sop (some 28) (.binOp .lss 3 (.tmp 25) (.tmp 27) 3) none,
    sop (some 29) (.move (.tmp 28)) none,
    sop (some 30) (.move (.tmp 3)) (some (4, true)),
    sop (some 31) (.move (.tmp 5)) (some (4, true)),
    sop (some 32) (.move (.tmp 7)) (some (4, true)),
    sop (some 33) (.indexAddr 62 (.tmp 31) (.tmp 32)) (some (4, true)),
    sop (some 34) (.load 3 (.tmp 33)) (some (4, true)),
    sop (some 35) (.indexAddr 37 (.tmp 30) (.tmp 34)) (some (4, true)),
    sop (some 36) (.load 62 (.tmp 35)) (some (4, true)),
    sop (some 37) (.move (.tmp 3)) (some (4, true)),
    sop (some 38) (.move (.tmp 6)) (some (4, true)),
    sop (some 39) (.indexAddr 37 (.tmp 37) (.tmp 38)) (some (4, true)),
    sop (some 40) (.load 62 (.tmp 39)) (some (4, true)),
    sop (some 41) (.call { callee := (.value (.func 102)), args := #[(.tmp 36), (.tmp 40)], argTypes := #[62, 62] }) (some (4, true)),
    sop (some 42) (.binOp .eql 3 (.tmp 41) (.const (.int .i64 1)) 3) (some (4, true)),
    sop (some 43) (.pick (.tmp 29) (.tmp 42) (.const (.bool false))) none]
theorem xr78_8 : Xr 78 61 r78_8 o78_8 [(9, 15), (11, 15)] := execI_reg' (by kernel_rfl)
noncomputable def r78_9 : Code := navF Try.f78 [1, 1, 1, 0, 1, 0, 0, 1, 0, 0, 1, 1, 0, 0, 0, 1, 0]
noncomputable def o78_9 : List Oper := [sop (some 44) (.move (.tmp 7)) none,
    sop (some 45) (.binOp .add 3 (.tmp 44) (.const (.int .i64 1)) 3) none,
    sop (some 7) (.assign (.tmp 45)) none]
theorem xr78_9 : Xr 78 61 r78_9 o78_9 [] := execI_reg' (by kernel_rfl)
theorem cl78_1 : l78_1 = (.seq (.seq r78_8 (.cond (.tmp 43) .skip (.exit 2))) (.block 3 r78_9)) := by kernel_rfl
noncomputable def r78_10 : Code := navF Try.f78 [1, 1, 1, 0, 1, 0, 0, 1, 0, 0, 1, 1, 1, 0]
noncomputable def o78_10 : List Oper := [sop (some 8) (.assign (.const (.slice none 0 0))) none]
theorem xr78_10 : Xr 78 61 r78_10 o78_10 [] := execI_reg' (by kernel_rfl)
noncomputable def r78_11 : Code := navF Try.f78 [1, 1, 1, 0, 1, 0, 0, 1, 0, 0, 1, 1, 1, 1, 0]
noncomputable def o78_11 : List Oper := [sop (some 46) (.move (.tmp 8)) none,
    sop (some 47) (.move (.tmp 5)) none,
    sop (some 48) (.move (.tmp 7)) none,
    sop (some 49) (.slice 62 (.tmp 47) none (some (.tmp 48)) none) none,
    sop (some 50) (.call { callee := (.builtin .append), args := #[(.tmp 46), (.tmp 49)], argTypes := #[62, 62] }) none,
    sop (some 8) (.assign (.tmp 50)) none]
theorem xr78_11 : Xr 78 61 r78_11 o78_11 [] := execI_reg' (by kernel_rfl)
noncomputable def r78_12 : Code := navF Try.f78 [1, 1, 1, 0, 1, 0, 0, 1, 0, 0, 1, 1, 1, 1, 1, 0]
noncomputable def o78_12 : List Oper := [sop (some 51) (.move (.tmp 8)) none,
    sop (some 52) (.move (.tmp 6)) none,
    sop (some 53) (.buildSlice 62 1 #[(0, (.tmp 52))]) none,
    sop (some 54) (.call { callee := (.builtin .append), args := #[(.tmp 51), (.tmp 53)], argTypes := #[62, 62] }) none,
    sop (some 8) (.assign (.tmp 54)) none]
theorem xr78_12 : Xr 78 61 r78_12 o78_12 [] := execI_reg' (by kernel_rfl)
noncomputable def r78_13 : Code := navF Try.f78 [1, 1, 1, 0, 1, 0, 0, 1, 0, 0, 1, 1, 1, 1, 1, 1]
noncomputable def o78_13 : List Oper := [sop (some 55) (.move (.tmp 8)) none,
    sop (some 56) (.move (.tmp 5)) none,
    sop (some 57) (.move (.tmp 7)) none,
    sop (some 58) (.slice 62 (.tmp 56) (some (.tmp 57)) none none) none,
    sop (some 59) (.call { callee := (.builtin .append), args := #[(.tmp 55), (.tmp 58)], argTypes := #[62, 62] }) none,
    sop (some 5) (.assign (.tmp 59)) none]
theorem xr78_13 : Xr 78 61 r78_13 o78_13 [] := execI_reg' (by kernel_rfl)
noncomputable def r78_5 : Code := navF Try.f78 [1, 1, 1, 0, 1, 0, 0, 1, 1]
noncomputable def o78_5 : List Oper := [sop (some 18) (.move (.tmp 6)) none,
    sop (some 19) (.binOp .add 3 (.tmp 18) (.const (.int .i64 1)) 3) none,
    sop (some 6) (.assign (.tmp 19)) none]
theorem xr78_5 : Xr 78 61 r78_5 o78_5 [] := execI_reg' (by kernel_rfl)
theorem cl78_0 : l78_0 = (.seq (.seq r78_4 (.cond (.tmp 17) .skip (.exit 0))) (.seq (.block 1 (.seq (.seq r78_6 (.cond (.tmp 24) (.exit 1) .skip)) (.seq r78_7 (.seq (.block 2 (.loop l78_1)) (.seq r78_10 (.seq r78_11 (.seq r78_12 r78_13))))))) r78_5)) := by kernel_rfl
noncomputable def r78_14 : Code := navF Try.f78 [1, 1, 1, 1, 0]
noncomputable def o78_14 : List Oper := [sop (some 60) (.move (.tmp 5)) none,
    sop (some 2) (.assign (.tmp 60)) none]
theorem xr78_14 : Xr 78 61 r78_14 o78_14 [] := execI_reg' (by kernel_rfl)
noncomputable def b78 : Code := (.seq r78_0 (.seq r78_1 (.seq r78_2 (.seq (.seq r78_3 (.block 0 (.loop l78_0))) (.seq r78_14 .ret)))))
theorem body78 : Try.f78.body = some b78 := by kernel_rfl
theorem fn78 : E.fn 78 = some Try.f78 := by kernel_rfl
theorem run78 (args : List D) (h : H) (hl : args.length ≤ 61) : bodyI E 78 args h = resOf E [(.tmp 2)] (execI E 78 61 b78 ⟨argA args, h⟩) := bodyI_res fn78 body78 rfl rfl args h hl
end Go.Eng.E3
namespace Go.Eng.E3
open Go Go.Eng Go.Proofs
set_option maxRecDepth 100000
attribute [local simp] execR runOps stepOp wantedD evalOp opd upd St.put Eff.apply upds looseOk FP.free FP.idle apart Eff.fp ofVal loadD storeD partD setPart indexAddrD isShift arith unD callOp mapO D.okc pickD buildable buildD placeD convD
set_option linter.unusedSimpArgs false
set_option maxHeartbeats 2000000
theorem snap_word (kp : Bool) (blk : Nat → Blk) (n : Nat) (w : List Nat) (tk : Tok) : snap kp blk (n + 2) (.frz (w.map natD) tk) = some (.frz (w.map natD) (tk.fade kp), []) := by
  show (match mapK (snap false blk (n + 1)) (w.map natD) with | some (ys, k) => some (D.frz ys (tk.fade kp), k) | none => none) = _
  rw [mapK_map w fun x _ => rfl]
theorem cells_word (w : List Nat) : ∀ x ∈ w.map natD, x.cells.length = 1 := fun x hx => by
  obtain ⟨y, _, rfl⟩ := List.mem_map.1 hx; rfl
theorem spec121 {m : M} (hv : Valid m) : ∀ (w : List Nat) (s : Int), StOk m s → (∀ i ∈ w, i < m.ins) → w.length < 2 ^ 40 → bodyR 121 [encM m, .int .i64 s, .frz (w.map natD) .unk] = some (.int .i64 (aftM m s w))
  | [], s, hs, hw, hL => by
    refine bodyR_V (run121 _ _ (by simp)) ?_
    unfold b121
    refine .then xr121_0 (by simp [o121_0, builtinD, lenD, pD, argA, encM]; rfl) ?_
    refine .assoc (.then xr121_1 (by simp [o121_1, builtinD, lenD, pD, argA]; rfl) ?_)
    refine .seq (.cond (by simp [opd, upd]; rfl) (fun _ => ?_) (fun hf => by cases hf))
    exact .then xr121_2 (by simp [o121_2, builtinD, lenD, pD, argA]; rfl) (.ret ⟨_, by simp [resultsD, mapO, resultD, upd]; rfl, by simp [snap, snapDepth, aftM]⟩)
  | i :: w, s, hs, hw, hL => by
    have hi : i < m.ins := hw i (List.mem_cons_self ..)
    have ih := spec121 hv w (nextM m s i).1 (nextM_st hv hs hi) (fun j hj => hw j (List.mem_cons_of_mem _ hj)) (by simp at hL; omega)
    have call : ∀ h, callI E (.fn 121 []) [.agg [.int .i64 m.ins, .int .i64 m.outs, .frz (m.rows.map rowD) .unk], .int .i64 (nextM m s i).1, .frz (w.map natD) .unk] h = some (.int .i64 (aftM m (nextM m s i).1 w), h, {}) := fun h =>
      call_pure (by decide) (snaps3 (snap_encM _ _ 4 m) rfl (snap_word _ _ 7 w .unk)) ih
    have hc : ∀ x ∈ w.map natD, x.cells.length = 1 := cells_word w
    have hb1 : (1 : Int) ≤ (w.length : Int) + 1 := by omega
    have htk : List.take w.length (w.map natD) = w.map natD := List.take_of_length_le (by simp)
    refine bodyR_V (run121 _ _ (by simp)) ?_
    unfold b121
    refine .then xr121_0 (by simp [o121_0, builtinD, lenD, pD, argA, encM]; rfl) ?_
    refine .assoc (.then xr121_1 (by simp [o121_1, builtinD, lenD, pD, argA]; rfl) ?_)
    refine .seq (.cond (by simp [opd, upd]; rfl) (fun hf => by simp at hf; omega) (fun _ => .skip ?_))
    refine .then xr121_3 (by simp [o121_3, builtinD, lenD, pD, argA, call54 hv hs hi, natD, sliceD, boundsD, optInt, call, hb1, hc, htk]; rfl) ?_
    refine .ret ⟨_, by simp [resultsD, mapO, resultD, upd]; rfl, by simp [snap, snapDepth, aftM]⟩
def lexM : List Nat → List Nat → Bool
  | a :: u, b :: v => if a = b then lexM u v else decide (a < b)
  | _, _ => false
def lessM (u v : List Nat) : Bool := if u.length = v.length then lexM u v else decide (u.length < v.length)
structure I102 (a b : List Nat) (k : Nat) (st : St) : Prop where
  le : k ≤ a.length
  h0 : st.A 0 = .frz (a.map natD) .unk
  h1 : st.A 1 = .frz (b.map natD) .unk
  h5 : st.A 5 = .int .i64 ((a.length - k : Nat) : Int)
  eq : lexM a b = lexM (a.drop (a.length - k)) (b.drop (a.length - k))
theorem spec102 {a b : List Nat} (hL : a.length < 2 ^ 40) : bodyR 102 [.frz (a.map natD) .unk, .frz (b.map natD) .unk] = some (.int .i64 (if lessM a b then 1 else 0)) := by
  refine bodyR_V (run102 _ _ (by simp)) ?_
  unfold b102
  refine .then xr102_0 (by simp [o102_0, builtinD, lenD, pD, argA]; rfl) ?_
  by_cases hl : a.length = b.length
  · refine .assoc (.then xr102_1 (by simp [o102_1, builtinD, lenD, pD, argA, hl]; rfl) ?_)
    refine .seq (.cond (by simp [opd, upd]; rfl) (fun hf => by cases hf) (fun _ => .skip ?_))
    refine .assoc (.then xr102_5 (by simp [o102_5, builtinD, lenD, pD, argA]; rfl) ?_)
    have hlm : lessM a b = lexM a b := by simp [lessM, hl]
    rw [hlm]
    refine .seq (.block (V.count (I102 a b) ?_ ?_ a.length _ ⟨Nat.le_refl _, by simp [upd, argA], by simp [upd, argA], by simp [upd], by simp⟩))
    · rintro k ⟨A, h⟩ ⟨le, h0, h1, h5, eq⟩
      have hlt : a.length - (k + 1) < a.length := by omega
      generalize hi : a.length - (k + 1) = i at *
      have hk' : a.length - k = i + 1 := by omega
      have hlt' : i < b.length := by omega
      have hw : IntKind.i64.wrap ((i : Int) + 1) = ((i + 1 : Nat) : Int) := by rw [wrap_id] <;> omega
      have da : a.drop i = a[i] :: a.drop (i + 1) := List.drop_eq_getElem_cons hlt
      have db : b.drop i = b[i] :: b.drop (i + 1) := List.drop_eq_getElem_cons hlt'
      rw [da, db, lexM] at eq
      simp only at h0 h1 h5
      rw [cl102_0]
      refine .assoc (.then xr102_6 (by simp [o102_6, builtinD, lenD, pD, argA, h0, h5]; rfl) ?_)
      refine .head (by simp [opd, upd]; rfl) (fun _ => ?_) (fun hf => by simp [hlt] at hf)
      by_cases he : a[i] = b[i]
      · refine .seq (.block (.then xr102_8 (by simp [o102_8, builtinD, lenD, pD, argA, h0, h1, h5, hlt, hlt', natD, he]; rfl) ?_))
        refine .cond (by simp [opd, upd]; rfl) (fun hf => by cases hf) (fun _ => .skip ?_)
        refine .reg xr102_7 (by simp [o102_7, builtinD, lenD, pD, argA, h5]; rfl) ⟨by omega, ?_, ?_, ?_, ?_⟩
        · simp [upd, h0]
        · simp [upd, h1]
        · simp [upd, hk', hw]
        · rw [eq, if_pos he, hk']
      · have hne : ((a[i] : Int) != (b[i] : Int)) = true := by simp; omega
        refine .seq (.block (.then xr102_8 (by simp [o102_8, builtinD, lenD, pD, argA, h0, h1, h5, hlt, hlt', natD, hne]; rfl) ?_))
        refine .cond (v := true) (by simp [opd, upd]) (fun _ => ?_) (fun hf => by cases hf)
        refine .assoc (.then xr102_9 (by simp [o102_9, builtinD, lenD, pD, argA, h0, h1, h5, hlt, hlt', natD]; rfl) ?_)
        by_cases hc : a[i] < b[i]
        · refine .seq (.cond (v := true) (by simp [opd, upd, hc]) (fun _ => ?_) (fun hf => by cases hf))
          exact .then xr102_10 (by simp [o102_10, builtinD, lenD, pD, argA]; rfl) (.ret ⟨_, by simp [resultsD, mapO, resultD, upd]; rfl, by simp [snap, snapDepth, eq, he, hc]⟩)
        · refine .seq (.cond (v := false) (by simp [opd, upd]; omega) (fun hf => by cases hf) (fun _ => .skip ?_))
          exact .then xr102_11 (by simp [o102_11, builtinD, lenD, pD, argA]; rfl) (.ret ⟨_, by simp [resultsD, mapO, resultD, upd]; rfl, by simp [snap, snapDepth, eq, he, hc]⟩)
    · rintro ⟨A, h⟩ ⟨le, h0, h1, h5, eq⟩
      simp only at h0 h1 h5
      rw [cl102_0]
      refine .assoc (.then xr102_6 (by simp [o102_6, builtinD, lenD, pD, argA, h0, h5]; rfl) ?_)
      refine .head (by simp [opd, upd]; rfl) (fun hf => by simp at hf) (fun _ => ?_)
      exact .then xr102_12 (by simp [o102_12, builtinD, lenD, pD, argA]; rfl) (.ret ⟨_, by simp [resultsD, mapO, resultD, upd]; rfl, by simp [snap, snapDepth, eq, lexM]⟩)
  · have hne : ((a.length : Int) != (b.length : Int)) = true := by simp; omega
    have hlm : lessM a b = decide (a.length < b.length) := by simp [lessM, hl]
    rw [hlm]
    refine .assoc (.then xr102_1 (by simp [o102_1, builtinD, lenD, pD, argA, hne]; rfl) ?_)
    refine .seq (.cond (v := true) (by simp [opd, upd]) (fun _ => ?_) (fun hf => by cases hf))
    refine .assoc (.then xr102_2 (by simp [o102_2, builtinD, lenD, pD, argA]; rfl) ?_)
    by_cases hc : a.length < b.length
    · refine .seq (.cond (v := true) (by simp [opd, upd, hc]) (fun _ => ?_) (fun hf => by cases hf))
      exact .then xr102_3 (by simp [o102_3, builtinD, lenD, pD, argA]; rfl) (.ret ⟨_, by simp [resultsD, mapO, resultD, upd]; rfl, by simp [snap, snapDepth, hc]⟩)
    · refine .seq (.cond (v := false) (by simp [opd, upd]; omega) (fun hf => by cases hf) (fun _ => .skip ?_))
      exact .then xr102_4 (by simp [o102_4, builtinD, lenD, pD, argA]; rfl) (.ret ⟨_, by simp [resultsD, mapO, resultD, upd]; rfl, by simp [snap, snapDepth, hc]⟩)
theorem call102 {a b : List Nat} (hL : a.length < 2 ^ 40) (h : H) : callI E (.fn 102 []) [.frz (a.map natD) .unk, .frz (b.map natD) .unk] h = some (.int .i64 (if lessM a b then 1 else 0), h, {}) :=
  call_pure (by decide) (snaps2 (snap_word _ _ 7 a .unk) (snap_word _ _ 7 b .unk)) (spec102 hL)
end Go.Eng.E3
namespace Go.Eng.E3
open Go Go.Eng Go.Proofs
set_option maxRecDepth 100000
attribute [local simp] execR runOps stepOp wantedD evalOp opd upd St.put Eff.apply upds looseOk FP.free FP.idle apart Eff.fp ofVal loadD storeD partD setPart indexAddrD isShift arith unD callOp mapO D.okc pickD buildable buildD placeD convD
set_option linter.unusedSimpArgs false
set_option maxHeartbeats 2000000
theorem V_while {E : Env} {cur : FuncId} {N : Nat} {c : Code} {Q : Po} (I : Nat → St → Prop) (hstep : ∀ k s, I k s → V E cur N c s (Q.upto fun s' => ∃ k', k' < k ∧ I k' s')) : ∀ k s, I k s → V E cur N (.loop c) s Q := by
  intro k
  induction k using Nat.strongRecOn with
  | ind k ih =>
    intro s h
    refine .loop ((hstep k s h).mono fun x s' hh => ?_)
    cases x with
    | normal => obtain ⟨k', hk, hi⟩ := hh; exact ih k' hk s' hi
    | exit i => exact hh
    | goto l => exact hh
    | ret => exact hh
def wD (p : List Nat × Tok) : D := .frz (p.1.map natD) p.2
def WL (h : H) (v : D) (l : List (List Nat)) (lo hi : Nat) : Prop :=
  (l = [] ∧ v = .frz [] .nil) ∨ ∃ (b : Nat) (ps : List (List Nat × Tok)) (ex : Bool), v = .sl b 1 0 l.length ex ∧ h.blk b = .live 1 (ps.map wD) ∧ ps.map (·.1) = l ∧ lo ≤ b ∧ b < hi
theorem WL.frame {h h' : H} {v : D} {l : List (List Nat)} {lo hi hi' : Nat} (m : WL h v l lo hi) (e : ∀ b, lo ≤ b → b < hi → h'.blk b = h.blk b) (hh : hi ≤ hi') : WL h' v l lo hi' := by
  rcases m with m | ⟨b, ps, ex, h1, h2, h3, h4, h5⟩
  · exact .inl m
  · exact .inr ⟨b, ps, ex, h1, by rw [e b h4 h5]; exact h2, h3, h4, by omega⟩
@[simp] theorem natD_cells (a : Nat) : (natD a).cells.length = 1 := rfl
theorem mu98a : E.pol.mu 98 62 = false := by decide
theorem mu98b : E.pol.mu 98 37 = true := by decide
theorem mu98c : E.pol.mu 98 123 = true := by decide
theorem appW1 {mu : TypeId → Bool} {s : Nat} {blk : Nat → Blk} {w : List Nat} {tk : Tok} (hmu : mu 62 = false) (hl : w.length < 2 ^ 39) :
    builtinD E.T mu s blk .append [62, 62] [.frz [] .exact, .frz (w.map natD) tk] = some { v := .frz (w.map natD) (.own s 1), wr := [(s, .tok)] } := by
  have hsn : mapK (snap false blk snapDepth) (w.map natD) = some (w.map natD, []) := mapK_map w fun x _ => rfl
  have hle : ([] ++ w.map natD).length * 8 * 2 ≤ maxAppend := by simp [maxAppend]; omega
  simp only [builtinD, ok_62, desc_62, if_true, appendD, elem_62, elemsD, hmu, Bool.false_eq_true, if_false, hsn, size_3, bytes_3, kills, List.map_nil, List.nil_append]
  rw [if_pos ⟨cells_word w, by simpa using hle, by decide, by decide⟩]
theorem appW2 {mu : TypeId → Bool} {s o : Nat} {blk : Nat → Blk} {w : List Nat} {i : Nat} (hmu : mu 62 = false) (hl : w.length < 2 ^ 39) (ho : blk o = .tok) :
    builtinD E.T mu s blk .append [62, 62] [.frz (w.map natD) (.own o 1), .frz [.int .i64 i] .exact] = some { v := .frz ((w ++ [i]).map natD) (.own s 1), wr := [(o, .dead), (s, .tok)], rd := [o] } := by
  have hall : ∀ z ∈ w.map natD ++ [D.int .i64 i], z.cells.length = 1 := fun z hz => by
    rcases List.mem_append.1 hz with hz | hz
    · exact cells_word w z hz
    · simp at hz; subst hz; rfl
  have hle : ((w.map natD).length + [D.int .i64 (i : Int)].length) * 8 * 2 ≤ maxAppend := by simp only [List.length_map, List.length_singleton, maxAppend]; omega
  simp only [builtinD, ok_62, desc_62, if_true, appendD, elem_62, elemsD, hmu, Bool.false_eq_true, if_false, mapK, snapDepth, snap_int, size_3, bytes_3, kills, List.map_nil, List.append_nil, List.nil_append]
  rw [if_pos ⟨hall, hle, by decide, by decide⟩]
  simp only [if_true, ho]
  simp [natD]
theorem appL0 {mu : TypeId → Bool} {s c : Nat} {blk : Nat → Blk} {x : D} {ex : Bool} (hmu : mu 37 = true) (hc : blk c = .live 1 [x]) (hx : x.cells.length = 1) :
    builtinD E.T mu s blk .append [37, 37] [.frz [] .nil, .sl c 1 0 1 ex] = some { v := .sl s 1 0 1 false, wr := [(s, .live 1 [x])], rd := [c] } := by
  simp only [builtinD, ok_37, desc_37, if_true, appendD, elem_37, elemsD, hc, row_live, hmu, size_62, bytes_62]
  simp [hx, maxAppend]
theorem appL1 {mu : TypeId → Bool} {s b c n : Nat} {blk : Nat → Blk} {x : D} {ex ex' : Bool} {xs : List D} (_hmu : mu 37 = true) (hc : blk c = .live 1 [x]) (hx : x.cells.length = 1) (hb : blk b = .live 1 xs) (hn : n = xs.length) (hbc : b ≠ c) (hl : n < 2 ^ 39) :
    builtinD E.T mu s blk .append [37, 37] [.sl b 1 0 n ex', .sl c 1 0 1 ex] = some { v := .sl s 1 0 (n + 1) false, wr := [(b, .dead), (s, .live 1 (xs ++ [x]))], rd := [b, c] } := by
  have hle : (n + 1) * 24 * 2 ≤ maxAppend := by unfold maxAppend; omega
  simp only [builtinD, ok_37, desc_37, if_true, appendD, elem_37, elemsD, hc, hb, row_live, size_62, bytes_62]
  simp [hx, hle, hn, hbc]
  omega
theorem push98 {A : Nat → D} {h : H} {lo i k : Nat} {ws more : List (List Nat)} {w : List Nat} (h8 : WL h (A 8) ws 0 lo) (h9 : WL h (A 9) more lo h.next) (h10 : A 10 = .int .i64 k) (h12 : A 12 = .int .i64 i) (hw : ws[k]? = some w) (hl : w.length < 2 ^ 39) (hm : more.length < 2 ^ 39) (hlo : lo ≤ h.next) :
    ∃ A' h', execR E (callI E) 98 o98_16 [] ⟨A, h⟩ = some ⟨A', h'⟩ ∧ (∀ t, t < 69 → t ≠ 9 → A' t = A t) ∧ h'.next = h.next + 13 ∧ (∀ b, b < lo → h'.blk b = h.blk b) ∧ WL h' (A' 9) (more ++ [w ++ [i]]) lo h'.next := by
  rcases h8 with ⟨rfl, _⟩ | ⟨b8, p8, x8, v8, g8, e8, _, g8b⟩
  · simp at hw
  have hk : k < ws.length := (List.getElem?_eq_some_iff.1 hw).1
  have hkp : k < p8.length := by have := congrArg List.length e8; simp at this; omega
  have hpw : p8[k].1 = w := by
    have : (p8.map (·.1))[k]? = some w := by rw [e8]; exact hw
    simpa [hkp] using this
  obtain ⟨tkw, hpk⟩ : ∃ tk, p8[k] = (w, tk) := ⟨p8[k].2, by rw [← hpw]⟩
  have hb8 : ∀ j, ¬ b8 = h.next + j := by omega
  have hb80 : ¬ b8 = h.next := by omega
  rcases h9 with ⟨rfl, v9⟩ | ⟨b9, p9, x9, v9, g9, e9, g9a, g9b⟩
  · refine ⟨_, _, by simp [pD, argA, o98_16, v8, v9, h10, h12, g8, hk, hkp, hpk, wD, mapK, mu98a, mu98b, kills, hb8, hb80, show List.range 0 = [] from rfl, appW1 mu98a hl, appW2 mu98a hl, appL0 mu98b, snap_int, snapDepth]; first | exact ⟨rfl, rfl⟩ | rfl, ?_, ?_, ?_, ?_⟩
    · intro t ht h9; simp [upd, h9, show ∀ c, 69 ≤ c → ¬ t = c from fun c h => by omega]
    · rfl
    · intro b hb; have e : ∀ j, ¬ b = h.next + j := by omega
      simp [upd, upds, e]
    · refine .inr ⟨h.next + 11, [(w ++ [i], .own (h.next + 9) 1)], false, by simp [upd], ?_, rfl, by omega, by simp⟩
      simp [upd, upds, wD]
  · have e9l : p9.length = more.length := by have := congrArg List.length e9; simpa using this
    have hb9 : ∀ j, ¬ b9 = h.next + j := by omega
    have hb90 : ¬ b9 = h.next := by omega
    have hal : ∀ (s : Nat) (blk : Nat → Blk) (x : D), blk (h.next + 10) = .live 1 [x] → x.cells.length = 1 → blk b9 = .live 1 (p9.map wD) → builtinD E.T (E.pol.mu 98) s blk .append [37, 37] [.sl b9 1 0 more.length x9, .sl (h.next + 10) 1 0 1 true] = some { v := .sl s 1 0 (more.length + 1) false, wr := [(b9, .dead), (s, .live 1 (p9.map wD ++ [x]))], rd := [b9, h.next + 10] } := fun s blk x q1 q2 q3 =>
      appL1 mu98b q1 q2 q3 (by simp [e9l]) (by omega) hm
    refine ⟨_, _, by simp [pD, argA, o98_16, v8, v9, h10, h12, g8, g9, hk, hkp, hpk, wD, mapK, mu98a, mu98b, kills, hb8, hb80, hb9, hb90, show List.range 0 = [] from rfl, appW1 mu98a hl, appW2 mu98a hl, hal, snap_int, snapDepth]; first | exact ⟨rfl, rfl⟩ | rfl, ?_, ?_, ?_, ?_⟩
    · intro t ht h9; simp [upd, h9, show ∀ c, 69 ≤ c → ¬ t = c from fun c h => by omega]
    · rfl
    · intro b hb; have e : ∀ j, ¬ b = h.next + j := by omega
      simp [upd, upds, e, show ¬ b = b9 by omega]
    · refine .inr ⟨h.next + 11, p9 ++ [(w ++ [i], .own (h.next + 9) 1)], false, by simp [upd], ?_, by simp [e9], by omega, by simp⟩
      simp [upd, upds, wD]
end Go.Eng.E3
namespace Go.Eng.E3
open Go Go.Eng Go.Proofs
set_option maxRecDepth 100000
attribute [local simp] execR runOps stepOp wantedD evalOp opd upd St.put Eff.apply upds looseOk FP.free FP.idle apart Eff.fp ofVal loadD storeD partD setPart indexAddrD isShift arith unD callOp mapO D.okc pickD buildable buildD placeD convD
set_option linter.unusedSimpArgs false
set_option linter.unusedVariables false
set_option maxHeartbeats 2000000
theorem spec110 {w : List Nat} : bodyR 110 [.frz (w.map natD) .unk] = some (.frz (w.map natD) .exact) := by
  have hc : ∀ x ∈ w.map natD, x.cells.length = 1 := cells_word w
  have htk : List.take w.length (w.map natD) = w.map natD := List.take_of_length_le (by simp)
  refine bodyR_V (run110 _ _ (by simp)) ?_
  unfold b110
  refine .then xr110_0 (by simp [o110_0, builtinD, lenD, pD, argA]; rfl) ?_
  refine .then xr110_1 (by simp [o110_1, builtinD, lenD, pD, argA, sliceD, boundsD, optInt, htk]; rfl) (.ret ⟨_, by simp [resultsD, mapO, resultD, upd]; rfl, ?_⟩)
  rw [show snapDepth = 7 + 2 from rfl, snap_word]
  rfl
theorem call110 {w : List Nat} {tk : Tok} (h : H) : callI E (.fn 110 []) [.frz (w.map natD) tk] h = some (.frz (w.map natD) .exact, h, {}) :=
  call_pure (by decide) (xs := [.frz (w.map natD) .unk]) (by
    have := snap_word (E.pol.args 110) h.blk 7 w tk
    simp only [mapK]
    rw [show snapDepth = 7 + 2 from rfl, this]
    have hk : E.pol.args 110 = false := by decide
    rw [hk]
    cases tk <;> rfl) spec110
abbrev Arr := (Int × Int) × Int × Nat
def arrD (r : Arr) : D := .agg [.int .i64 r.1.1, .int .i64 r.1.2, .int .i64 r.2.1, .int .i64 r.2.2]
def arr0 : Arr := ((0, 0), -1, 0)
def wordA (l : List Arr) : Nat → Int → List Nat → List Nat
  | 0, _, more => more
  | k + 1, at_, more => if (l.getD at_.toNat arr0).2.1 = -1 then more else wordA l k (l.getD at_.toNat arr0).2.1 ((l.getD at_.toNat arr0).2.2 :: more)
def ArrOk (l : List Arr) : Prop := ∀ i, i < l.length → (l.getD i arr0).2.1 = -1 ∨ (0 ≤ (l.getD i arr0).2.1 ∧ (l.getD i arr0).2.1 < i)
theorem snap_arr (kp : Bool) (blk : Nat → Blk) (n : Nat) (r : Arr) : snap kp blk (n + 2) (arrD r) = some (arrD r, []) := rfl
theorem snap_arrs (kp : Bool) (blk : Nat → Blk) (n : Nat) (l : List Arr) (tk : Tok) : snap kp blk (n + 3) (.frz (l.map arrD) tk) = some (.frz (l.map arrD) (tk.fade kp), []) := by
  show (match mapK (snap false blk (n + 2)) (l.map arrD) with | some (ys, k) => some (D.frz ys (tk.fade kp), k) | none => none) = _
  rw [mapK_map l fun x _ => snap_arr false blk n x]
theorem app62c {mu : TypeId → Bool} {s : Nat} {blk : Nat → Blk} {x : Nat} {w : List Nat} {tk : Tok} (hmu : mu 62 = false) (hl : w.length < 2 ^ 38) :
    builtinD E.T mu s blk .append [62, 62] [.frz [.int .i64 x] .exact, .frz (w.map natD) tk] = some { v := .frz ((x :: w).map natD) (.own s 1), wr := [(s, .tok)] } := by
  have hsn : mapK (snap false blk snapDepth) (w.map natD) = some (w.map natD, []) := mapK_map w fun x _ => rfl
  have hall : ∀ z ∈ [D.int .i64 x] ++ w.map natD, z.cells.length = 1 := fun z hz => by
    rcases List.mem_append.1 hz with hz | hz
    · simp at hz; subst hz; rfl
    · exact cells_word w z hz
  have hle : ([D.int .i64 (x : Int)].length + (w.map natD).length) * 8 * 2 ≤ maxAppend := by simp only [List.length_map, List.length_singleton, maxAppend]; omega
  simp only [builtinD, ok_62, desc_62, if_true, appendD, elem_62, elemsD, hmu, Bool.false_eq_true, if_false, hsn, size_3, bytes_3, kills, List.map_nil, List.nil_append]
  rw [if_pos ⟨hall, hle, by decide, by decide⟩]
  simp [natD]
structure I87 (l : List Arr) (W : List Nat) (k : Nat) (st : St) : Prop where
  h0 : st.A 0 = .frz (l.map arrD) .unk
  ex : ∃ (a : Nat) (more : List Nat) (tk : Tok), st.A 1 = .int .i64 a ∧ st.A 2 = .frz (more.map natD) tk ∧ a < l.length ∧ a < k ∧ wordA l k a more = W ∧ more.length + k < 2 ^ 38
theorem spec87 {l : List Arr} (ho : ArrOk l) {a : Nat} (ha : a < l.length) {more : List Nat} (hL : l.length < 2 ^ 36) (hm : more.length < 2 ^ 36) :
    bodyR 87 [.frz (l.map arrD) .unk, .int .i64 a, .frz (more.map natD) .unk] = some (.frz ((wordA l l.length a more).map natD) .exact) := by
  have mu87 : E.pol.mu 87 62 = false := by decide
  refine bodyR_V (run87 _ _ (by simp)) ?_
  unfold b87
  refine .then xr87_0 (by simp [o87_0, builtinD, lenD, pD, argA]; rfl) ?_
  refine .seq (.block (V_while (I87 l (wordA l l.length a more)) ?_ l.length _ ⟨by simp [upd, argA], a, more, .unk, by simp [upd, argA], by simp [upd, argA], ha, ha, rfl, by omega⟩))
  rintro k ⟨A, h⟩ ⟨h0, b, mr, tk, h1, h2, hb, hk, hw, hl⟩
  simp only at h0 h1 h2
  obtain ⟨k, rfl⟩ : ∃ k', k = k' + 1 := ⟨k - 1, by omega⟩
  have hok := ho b hb
  have hbi : (b : Int) < l.length := by omega
  have hg : l.getD b arr0 = l[b] := by simp [hb]
  rw [wordA, Int.toNat_natCast, hg] at hw
  rw [hg] at hok
  obtain ⟨⟨⟨p1, p2⟩, f, i⟩, hr⟩ : ∃ r, l[b] = r := ⟨_, rfl⟩
  rw [hr] at hw hok
  simp only at hw hok
  rw [cl87_0]
  by_cases hf : f = -1
  · rw [if_pos hf] at hw
    subst hf
    refine .assoc (.then xr87_1 (by simp [o87_1, builtinD, lenD, pD, argA, h0, h1, hb, hbi, hr, arrD]; rfl) ?_)
    refine .head (v := false) (by simp [opd, upd]) (fun q => by cases q) (fun _ => ?_)
    refine .then xr87_4 (by simp [o87_4, builtinD, lenD, pD, argA, h2, call110]; rfl) (.ret ⟨_, by simp [resultsD, mapO, resultD, upd]; rfl, ?_⟩)
    rw [show snapDepth = 7 + 2 from rfl, snap_word, ← hw]
    rfl
  · rw [if_neg hf] at hw
    have hfb : (f != -1) = true := by simp [hf]
    refine .assoc (.then xr87_1 (by simp [o87_1, builtinD, lenD, pD, argA, h0, h1, hb, hbi, hr, arrD, hfb]; rfl) ?_)
    refine .head (v := true) (by simp [opd, upd]) (fun _ => ?_) (fun q => by cases q)
    have hf0 : 0 ≤ f ∧ f < b := by rcases hok with q | q; exact absurd q hf; exact q
    obtain ⟨f', rfl⟩ := Int.eq_ofNat_of_zero_le hf0.1
    refine .block (.then xr87_2 (by simp [o87_2, pD, argA, h0, h1, h2, hb, hbi, hr, arrD, app62c mu87 (show mr.length < 2 ^ 38 by omega), mu87, mapK, snapDepth, snap_int, kills]; rfl) ?_)
    refine .reg xr87_3 (by simp [o87_3, builtinD, lenD, pD, argA, h0, h1, hb, hbi, hr, arrD]; rfl) ⟨k, by omega, by simp [upd, h0], f', i :: mr, _, by simp [upd], by simp [upd]; rfl, by omega, by omega, hw, by simp; omega⟩
theorem call87 {l : List Arr} (ho : ArrOk l) {a : Nat} (ha : a < l.length) {more : List Nat} (hL : l.length < 2 ^ 36) (hm : more.length < 2 ^ 36) {tk tk' : Tok} (h : H) :
    callI E (.fn 87 []) [.frz (l.map arrD) tk, .int .i64 a, .frz (more.map natD) tk'] h = some (.frz ((wordA l l.length a more).map natD) .exact, h, {}) :=
  call_pure (by decide) (xs := [.frz (l.map arrD) .unk, .int .i64 a, .frz (more.map natD) .unk]) (by
    have hk : E.pol.args 87 = false := by decide
    rw [hk]
    have e1 := snap_arrs false h.blk 6 l tk
    have e2 := snap_word false h.blk 7 more tk'
    have f1 : tk.fade false = .unk := by cases tk <;> rfl
    have f2 : tk'.fade false = .unk := by cases tk' <;> rfl
    rw [f1] at e1
    rw [f2] at e2
    rw [← show snapDepth = 6 + 3 from rfl] at e1
    rw [← show snapDepth = 7 + 2 from rfl] at e2
    simp only [mapK, e1, e2]; rfl) (spec87 ho ha hL hm)
theorem spec86 {a b : M} : bodyR 86 [encM a, encM b] = some (.fn 109 [.iref (encM a), .iref (encM b)]) := by
  refine bodyR_V (run86 _ _ (by simp)) ?_
  unfold b86
  refine .then xr86_0 (by simp [o86_0, builtinD, lenD, pD, argA, encM]; rfl) ?_
  refine .then xr86_1 (by simp [o86_1, builtinD, lenD, pD, argA]; rfl) (.ret ⟨_, by simp [resultsD, mapO, resultD, upd]; rfl, ?_⟩)
  have e1 : ∀ blk : Nat → Blk, blk 0 = .live 3 [encM a] → snap true blk 8 (.ptr 0 0 0) = some (.iref (encM a), [0]) := fun blk hb => snap_ptr true blk 7 hb (snap_encM false _ 2 a)
  have e2 : ∀ blk : Nat → Blk, blk 1 = .live 3 [encM b] → snap true blk 8 (.ptr 1 0 0) = some (.iref (encM b), [1]) := fun blk hb => snap_ptr true blk 7 hb (snap_encM false _ 2 b)
  show Option.map _ (match mapK (snap true _ 8) [.ptr 0 0 0, .ptr 1 0 0] with | some (ys, k) => some (D.fn 109 ys, k) | none => none) = _
  simp only [mapK, upds]
  rw [e1 _ (by simp [upd, encM]), e2 _ (by simp [upd, encM])]
  rfl
end Go.Eng.E3
namespace Go.Eng.E3
open Go Go.Eng Go.Proofs
set_option maxRecDepth 100000
attribute [local simp] execR runOps stepOp wantedD evalOp opd upd St.put Eff.apply upds looseOk FP.free FP.idle apart Eff.fp ofVal loadD storeD partD setPart indexAddrD isShift arith unD callOp mapO D.okc pickD buildable buildD placeD convD
set_option linter.unusedSimpArgs false
set_option linter.unusedVariables false
set_option maxHeartbeats 4000000
noncomputable def R60 (A : Nat → D) : LoopRec := { cur := 60, A := A, N := 53, params := #[15, 16], assign := g60_0a, body := g60_0b, st := .ready, pending := none }
def meetD (a i : Nat) (x y : Int × Int) : D := .agg [.int .i64 a, .int .i64 i, .int .i64 x.1, .int .i64 x.2, .int .i64 y.1, .int .i64 y.2]
def PL (h : H) (c : Nat) (ps : List (Int × Int)) (N : Nat) : Prop := ∃ pb ex, h.blk c = .live 1 [.sl pb 2 0 ps.length ex] ∧ h.blk pb = .live 2 (ps.map pD) ∧ pb < N
structure HJ (A : Nat → D) (c4 c5 c6 L C : Nat) (ps ms : List (Int × Int)) (N : Nat) (h : H) : Prop where
  a4 : A 4 = .ptr c4 0 0
  a5 : A 5 = .ptr c5 0 0
  a6 : A 6 = .ptr c6 0 0
  hL : h.blk L = .loop (R60 A)
  h2 : h.blk c4 = .live 1 [.frz [] .nil]
  h3 : h.blk c5 = .live 1 [.frz [] .nil]
  hp : PL h c6 ps N
  hm : h.blk C = .map (ms.map fun p => (pD p, .bool true))
  b4 : c4 < L
  b5 : c5 < L
  bl : c6 < L
  x45 : c4 ≠ c5
  x46 : c4 ≠ c6
  x56 : c5 ≠ c6
  lc : L < C
  cn : C < N
  hn : N ≤ h.next
def addP (ps : List (Int × Int)) (x y : Int × Int) : List (Int × Int) := if x.1 ≠ -1 ∧ (x.1, y.1) ∉ ps then ps ++ [(x.1, y.1)] else ps
theorem app76 {mu : TypeId → Bool} {s b c n : Nat} {blk : Nat → Blk} {x : D} {ex ex' : Bool} {xs : List D} (hc : blk c = .live 2 [x]) (hx : x.cells.length = 2) (hxs : ∀ z ∈ xs, z.cells.length = 2) (hb : blk b = .live 2 xs) (hn : n = xs.length) (hbc : b ≠ c) (hl : n < 2 ^ 38) :
    builtinD E.T mu s blk .append [76, 76] [.sl b 2 0 n ex', .sl c 2 0 1 ex] = some { v := .sl s 2 0 (n + 1) false, wr := [(b, .dead), (s, .live 2 (xs ++ [x]))], rd := [b, c] } := by
  have hle : (n + 1) * 16 * 2 ≤ maxAppend := by unfold maxAppend; omega
  simp only [builtinD, ok_76, desc_76, if_true, appendD, elem_76, elemsD, hc, hb, row_live, size_105, bytes_105]
  simp [hx, hle, hn, hbc]
  omega
theorem cells_pairs60 (ps : List (Int × Int)) : ∀ z ∈ ps.map pD, z.cells.length = 2 := fun z hz => by
  obtain ⟨y, _, rfl⟩ := List.mem_map.1 hz; rfl
theorem call88 {ps : List (Int × Int)} {q : Int × Int} (hL : ps.length < 2 ^ 62) {h : H} {pb : Nat} {ex : Bool} (hb : h.blk pb = .live 2 (ps.map pD)) : callI E (.fn 88 []) [.sl pb 2 0 ps.length ex, .agg [.int .i64 q.1, .int .i64 q.2]] h = some (.bool (decide (q ∈ ps)), h, { rd := [pb] }) := by
  have hk : E.pol.args 88 = false := by decide
  have hs : snap false h.blk snapDepth (.sl pb 2 0 ps.length ex) = some (.frz (ps.map pD) .unk, [pb]) := by
    show (match (h.blk pb).row with | some (e, xs) => (if e = 2 ∧ 0 + ps.length ≤ xs.length then (match mapK (Eng.snap false h.blk 8) ((xs.drop 0).take ps.length) with | some (ys, k) => some (D.frz ys (if false && ex then .exact else .unk), pb :: k) | none => none) else none) | none => none) = _
    rw [hb]
    simp only [row_live, List.length_map, List.drop_zero]
    rw [if_pos ⟨trivial, by omega⟩, List.take_of_length_le (by simp), mapK_map ps fun x _ => snap_pD false h.blk 6 x]
    rfl
  have := call_cap (g := 88) (args := [.sl pb 2 0 ps.length ex, pD q]) (cap := []) (h := h) (xs := [.frz (ps.map pD) .unk, pD q]) (ks := [pb]) (by decide) (by
    rw [hk, List.append_nil]
    simp only [mapK, hs, show snap false h.blk snapDepth (pD q) = some (pD q, []) from rfl]; rfl) (spec88 hL) (fun _ => rfl)
  exact this
theorem yieldT {A : Nat → D} {c4 c5 c6 L C : Nat} {ps ms : List (Int × Int)} {N : Nat} {h : H} (hj : HJ A c4 c5 c6 L C ps ms N h) {at_ i : Nat} {x y : Int × Int} {l : List Arr} {tk : Tok} (hl : ps.length < 2 ^ 36) (he : x.2 = y.2) :
    ∃ h', callI E (.yld L) [meetD at_ i x y, .frz (l.map arrD) tk] h = some (.bool true, h', { full := true }) ∧ HJ A c4 c5 c6 L C (addP ps x y) ms h'.next h' ∧ h.next ≤ h'.next ∧ (∀ b, N ≤ b → b < h.next → h'.blk b = h.blk b) ∧ ∀ b, b < h.next → h.blk b = .tok → h'.blk b = .tok := by
  obtain ⟨a4, a5, a6, hL, h2, h3, ⟨pb, ex, p1, p2, p3⟩, hm, b4, b5, bl, x45, x46, x56, lc, cn, hn⟩ := hj
  have d1 : pb ≠ c6 := fun e => by rw [e, p1] at p2; cases p2
  have d2 : pb ≠ c4 := fun e => by rw [e, h2] at p2; cases p2
  have d3 : pb ≠ c5 := fun e => by rw [e, h3] at p2; cases p2
  have d4 : pb ≠ L := fun e => by rw [e, hL] at p2; cases p2
  have d5 : pb ≠ C := fun e => by rw [e, hm] at p2; cases p2
  have e1 : execI E 60 53 g60_0a ⟨putParams A [(15, meetD at_ i x y), (16, .frz (l.map arrD) tk)], h⟩ = some (.normal, ⟨upd (upd (upd (upd A 15 (meetD at_ i x y)) 16 (.frz (l.map arrD) tk)) 7 (.ptr h.next 0 0)) 8 (.frz (l.map arrD) tk), ⟨h.next + 2 + 1, upd (upd h.blk h.next (.live 6 [.agg [.int .i64 0, .int .i64 0, .int .i64 0, .int .i64 0, .int .i64 0, .int .i64 0]])) h.next (.live 6 [meetD at_ i x y])⟩⟩) := by
    rw [cg60_0a, execI_seq, xr60_3]
    have : execR E (callI E) 60 o60_3 [] ⟨putParams A [(15, meetD at_ i x y), (16, .frz (l.map arrD) tk)], h⟩ = some ⟨upd (upd (upd A 15 (meetD at_ i x y)) 16 (.frz (l.map arrD) tk)) 7 (.ptr h.next 0 0), ⟨h.next + 2, upd (upd h.blk h.next (.live 6 [.agg [.int .i64 0, .int .i64 0, .int .i64 0, .int .i64 0, .int .i64 0, .int .i64 0]])) h.next (.live 6 [meetD at_ i x y])⟩⟩ := by
      simp [builtinD, lenD, pD, argA, o60_3, putParams, meetD]
    rw [this]
    simp only [Option.map_some]
    rw [xr60_4]
    simp [builtinD, lenD, pD, argA, o60_4, meetD]
  have e2 : V E 60 53 g60_0b ⟨upd (upd (upd (upd A 15 (meetD at_ i x y)) 16 (.frz (l.map arrD) tk)) 7 (.ptr h.next 0 0)) 8 (.frz (l.map arrD) tk), ⟨h.next + 2 + 1, upd (upd (upd h.blk h.next (.live 6 [.agg [.int .i64 0, .int .i64 0, .int .i64 0, .int .i64 0, .int .i64 0, .int .i64 0]])) h.next (.live 6 [meetD at_ i x y])) L (.loop { R60 A with st := .busy })⟩⟩
      ⟨fun s => h.next ≤ s.h.next ∧ PL s.h c6 (addP ps x y) s.h.next ∧ s.h.blk L = .loop { R60 A with st := .busy } ∧ (∀ b, b < h.next → b ≠ L → b ≠ c6 → b ≠ pb → s.h.blk b = h.blk b), fun _ => False, fun _ _ => False, fun _ _ => False⟩ := by
    rw [cg60_0b]
    have n1 : ¬ h.next = L := by omega
    have n2 : ¬ c6 = h.next := by omega
    have n3 : ¬ c6 = L := by omega
    have n4 : ¬ pb = h.next := by omega
    have n5 : ∀ j, ¬ c6 = h.next + j := by omega
    have n6 : ∀ j, ¬ pb = h.next + j := by omega
    have n7 : ∀ j, ¬ h.next = h.next + 2 + 1 + j := by omega
    have n8 : ∀ j, ¬ L = h.next + j := by omega
    have n9 : ∀ j, ¬ h.next + j = L := by omega
    generalize hbk : upd (upd (upd h.blk h.next (.live 6 [.agg [.int .i64 0, .int .i64 0, .int .i64 0, .int .i64 0, .int .i64 0, .int .i64 0]])) h.next (.live 6 [meetD at_ i x y])) L (.loop { R60 A with st := .busy }) = blk1
    have g1 : blk1 h.next = .live 6 [meetD at_ i x y] := by rw [← hbk]; simp [upd, n1]
    have g2 : blk1 c6 = .live 1 [.sl pb 2 0 ps.length ex] := by rw [← hbk]; simp [upd, n2, n3, p1]
    have g3 : blk1 pb = .live 2 (ps.map pD) := by rw [← hbk]; simp [upd, d4, n4, p2]
    have g4 : blk1 L = .loop { R60 A with st := .busy } := by rw [← hbk]; simp [upd]
    have g5 : ∀ b, b < h.next → b ≠ L → blk1 b = h.blk b := fun b h1 h2 => by rw [← hbk]; simp [upd, h2, show b ≠ h.next by omega]
    have heb : (x.2 != y.2) = false := by simp [he]
    have rest : ∀ (A2 : Nat → D) (h2 : H) (c : Nat) (Q : Po), A2 6 = .ptr c6 0 0 → A2 7 = .ptr h.next 0 0 → A2 9 = .ptr c 0 0 → h2.blk c = .live 2 [.agg [.int .i64 x.1, .int .i64 y.1]] → h2.blk h.next = .live 6 [meetD at_ i x y] → (∀ b, b < h.next → h2.blk b = blk1 b) → h.next < c → c < h2.next →
        (∀ s, (h.next ≤ s.h.next ∧ PL s.h c6 (addP ps x y) s.h.next ∧ s.h.blk L = .loop { R60 A with st := .busy } ∧ (∀ b, b < h.next → b ≠ L → b ≠ c6 → b ≠ pb → s.h.blk b = h.blk b)) → Q.n s) → V E 60 53 (r60_8.seq (.cond (.tmp 47) r60_9 .skip)) ⟨A2, h2⟩ Q := by
      intro A2 h2 c Q b6 b7 b9 bc bm bf hc1 hc2 hq
      have f2 := (bf c6 (by omega)).trans g2
      have f3 := (bf pb (by omega)).trans g3
      have f4 := (bf L (by omega)).trans g4
      have f5 : ∀ b, b < h.next → b ≠ L → h2.blk b = h.blk b := fun b h1 h2 => (bf b h1).trans (g5 b h1 h2)
      have c1 : ¬ c = pb := by omega
      have c2 : ¬ pb = c := by omega
      have c3 : ¬ c6 = c := by omega
      by_cases hx : x.1 = -1
      · have hxb : (x.1 != -1) = false := by simp [hx]
        refine .then xr60_8 (by simp [o60_8, builtinD, lenD, pD, argA, b7, bm, meetD, hxb]; rfl) ?_
        refine .cond (v := false) (by simp [opd, upd]) (fun q => by cases q) (fun _ => .skip (hq _ ?_))
        have : addP ps x y = ps := by simp [addP, hx]
        rw [this]
        exact ⟨by simp only; omega, ⟨pb, ex, f2, f3, by simp only; omega⟩, f4, fun b h1 h2 h3 h4 => f5 b h1 h2⟩
      · have hxb : (x.1 != -1) = true := by simp [hx]
        have cl := call88 (q := (x.1, y.1)) (ps := ps) (ex := ex) (pb := pb) (h := ⟨h2.next + 10, h2.blk⟩) (by omega) f3
        by_cases hin : (x.1, y.1) ∈ ps
        · rw [decide_eq_true hin] at cl
          refine .then xr60_8 (by simp [o60_8, builtinD, lenD, pD, argA, b6, b7, b9, bc, bm, f2, meetD, hxb, cl]; rfl) ?_
          refine .cond (v := false) (by simp [opd, upd]) (fun q => by cases q) (fun _ => .skip (hq _ ?_))
          have : addP ps x y = ps := by simp [addP, hin]
          rw [this]
          exact ⟨by simp only; omega, ⟨pb, ex, f2, f3, by simp only; omega⟩, f4, fun b h1 h2 h3 h4 => f5 b h1 h2⟩
        · rw [decide_eq_false hin] at cl
          refine .then xr60_8 (by simp [o60_8, builtinD, lenD, pD, argA, b6, b7, b9, bc, bm, f2, meetD, hxb, cl]; rfl) ?_
          refine .cond (v := true) (by simp [opd, upd]) (fun _ => ?_) (fun q => by cases q)
          have : addP ps x y = ps ++ [(x.1, y.1)] := by simp [addP, hin, hx]
          rw [this] at hq
          have mu60 : E.pol.mu 60 76 = true := by decide
          have n10 : ∀ j, ¬ c6 = h2.next + 10 + j := by omega
          have n11 : ∀ j, ¬ pb = h2.next + 10 + j := by omega
          have n12 : ∀ j, ¬ h2.next + 10 + j = pb := by omega
          have n13 : ¬ c6 = pb := fun e => d1 e.symm
          have n14 : ∀ j, ¬ L = h2.next + 10 + j := by omega
          have ap : ∀ (blk : Nat → Blk) s d, blk d = .live 2 [.agg [.int .i64 x.1, .int .i64 y.1]] → blk pb = .live 2 (ps.map pD) → pb ≠ d → builtinD E.T (E.pol.mu 60) s blk .append [76, 76] [.sl pb 2 0 ps.length ex, .sl d 2 0 1 true] = some { v := .sl s 2 0 (ps.length + 1) false, wr := [(pb, .dead), (s, .live 2 (ps.map pD ++ [.agg [.int .i64 x.1, .int .i64 y.1]]))], rd := [pb, d] } := fun blk s d h1 h2 h3 => app76 h1 rfl (cells_pairs60 ps) h2 (by simp) h3 (by omega)
          refine .reg xr60_9 (by simp [o60_9, pD, argA, b6, b9, bc, f2, f3, mu60, show List.range 1 = [0] from rfl, n10, n11, n12, n13, ap]; rfl) (hq _ ⟨by simp only; omega, ⟨h2.next + 10 + 3, false, ?_, ?_, ?_⟩, ?_, fun b h1 h2' h3 h4 => ?_⟩)
          · simp [upd, upds]
          · simp [upd, upds, n12, pD, show ¬ h2.next + 10 + 3 = c6 by omega]
          · simp
          · simp [upd, upds, n14, show ¬ L = c6 by omega, show ¬ L = pb by omega, f4]
          · simp [upd, upds, h3, h4, show ∀ j, ¬ b = h2.next + 10 + j by omega, f5 b h1 h2']
    refine .block (.assoc (.then xr60_5 (by simp [o60_5, builtinD, lenD, pD, argA, g1, meetD, heb]; rfl) ?_))
    refine .seq (.cond (v := false) (by simp [opd, upd]) (fun q => by cases q) (fun _ => .skip ?_))
    refine .then xr60_7 (by simp [o60_7, builtinD, lenD, pD, argA, g1, meetD, n7]; rfl) ?_
    refine rest _ _ (h.next + 2 + 1 + 7 + 7) _ (by simp [upd, a6]) (by simp [upd]) (by simp [upd]) (by simp [upds, upd]) (by simpa [upds, upd, show ¬ h.next = h.next + 2 + 1 + 7 + 7 by omega] using g1) (fun b hb => by simp [upds, upd, show ¬ b = h.next + 2 + 1 + 7 + 7 by omega]) (by omega) (by simp) (fun s hs => hs)
  obtain ⟨xx, s2, q1, q2⟩ := e2
  cases xx with
  | exit i => exact q2.elim
  | goto l => exact q2.elim
  | ret => exact q2.elim
  | normal =>
    obtain ⟨z1, ⟨pb', ex', z2, z3, z4⟩, z5, z6⟩ := q2
    have hcall := callI_yld (E := E) (l := L) (args := [meetD at_ i x y, .frz (l.map arrD) tk]) (h := h) (r := R60 A) (r1 := R60 A) (r2 := { R60 A with st := .busy }) (x := .normal) hL rfl e1 (by simp [upd, show L ≠ h.next by omega, hL]) rfl q1 z5
    have w1 : ¬ c6 = L := by omega
    have w2 : pb' ≠ L := fun e => by rw [e, z5] at z3; cases z3
    refine ⟨_, hcall, ⟨a4, a5, a6, ?_, ?_, ?_, ⟨pb', ex', ?_, ?_, z4⟩, ?_, b4, b5, bl, x45, x46, x56, lc, by simp only; omega, Nat.le_refl _⟩, z1, ?_, ?_⟩
    · simp [R60, jumpOf]
    · simp only; rw [upd_ne _ _ _ _ (by omega), z6 _ (by omega) (by omega) (by omega) (Ne.symm d2)]; exact h2
    · simp only; rw [upd_ne _ _ _ _ (by omega), z6 _ (by omega) (by omega) (by omega) (Ne.symm d3)]; exact h3
    · simp only; rw [upd_ne _ _ _ _ w1]; exact z2
    · simp only; rw [upd_ne _ _ _ _ w2]; exact z3
    · simp only; rw [upd_ne _ _ _ _ (by omega), z6 _ (by omega) (by omega) (by omega) (Ne.symm d5)]; exact hm
    · intro b hb1 hb2
      simp only; rw [upd_ne _ _ _ _ (by omega), z6 _ (by omega) (by omega) (by omega) (by omega)]
    · intro b hb1 hb2
      have t1 : b ≠ L := fun e => by rw [e, hL] at hb2; cases hb2
      have t2 : b ≠ c6 := fun e => by rw [e, p1] at hb2; cases hb2
      have t3 : b ≠ pb := fun e => by rw [e, p2] at hb2; cases hb2
      simp only; rw [upd_ne _ _ _ _ t1, z6 _ hb1 t1 t2 t3]; exact hb2
theorem yieldF {A : Nat → D} {c4 c5 c6 L C : Nat} {ps ms : List (Int × Int)} {N : Nat} {h : H} (hj : HJ A c4 c5 c6 L C ps ms N h) {at_ i : Nat} {x y : Int × Int} {l : List Arr} {tk : Tok} (he : x.2 ≠ y.2) (ho : ArrOk l) (ha : at_ < l.length) (hL : l.length < 2 ^ 36) :
    ∃ h', callI E (.yld L) [meetD at_ i x y, .frz (l.map arrD) tk] h = some (.bool false, h', { full := true }) ∧ h'.blk L = .loop { R60 A with st := .done, pending := some .ret } ∧ h'.blk c4 = .live 1 [.frz ((wordA l l.length at_ [i]).map natD) .exact] ∧ h'.blk c5 = .live 1 [.frz [] .nil] ∧ h.next ≤ h'.next := by
  obtain ⟨a4, a5, a6, hL', h2, h3, ⟨pb, ex, p1, p2, p3⟩, hm, b4, b5, bl, x45, x46, x56, lc, cn, hn⟩ := hj
  have e1 : execI E 60 53 g60_0a ⟨putParams A [(15, meetD at_ i x y), (16, .frz (l.map arrD) tk)], h⟩ = some (.normal, ⟨upd (upd (upd (upd A 15 (meetD at_ i x y)) 16 (.frz (l.map arrD) tk)) 7 (.ptr h.next 0 0)) 8 (.frz (l.map arrD) tk), ⟨h.next + 2 + 1, upd (upd h.blk h.next (.live 6 [.agg [.int .i64 0, .int .i64 0, .int .i64 0, .int .i64 0, .int .i64 0, .int .i64 0]])) h.next (.live 6 [meetD at_ i x y])⟩⟩) := by
    rw [cg60_0a, execI_seq, xr60_3]
    have : execR E (callI E) 60 o60_3 [] ⟨putParams A [(15, meetD at_ i x y), (16, .frz (l.map arrD) tk)], h⟩ = some ⟨upd (upd (upd A 15 (meetD at_ i x y)) 16 (.frz (l.map arrD) tk)) 7 (.ptr h.next 0 0), ⟨h.next + 2, upd (upd h.blk h.next (.live 6 [.agg [.int .i64 0, .int .i64 0, .int .i64 0, .int .i64 0, .int .i64 0, .int .i64 0]])) h.next (.live 6 [meetD at_ i x y])⟩⟩ := by
      simp [builtinD, lenD, pD, argA, o60_3, putParams, meetD]
    rw [this]
    simp only [Option.map_some]
    rw [xr60_4]
    simp [builtinD, lenD, pD, argA, o60_4, meetD]
  have e2 : V E 60 53 g60_0b ⟨upd (upd (upd (upd A 15 (meetD at_ i x y)) 16 (.frz (l.map arrD) tk)) 7 (.ptr h.next 0 0)) 8 (.frz (l.map arrD) tk), ⟨h.next + 2 + 1, upd (upd (upd h.blk h.next (.live 6 [.agg [.int .i64 0, .int .i64 0, .int .i64 0, .int .i64 0, .int .i64 0, .int .i64 0]])) h.next (.live 6 [meetD at_ i x y])) L (.loop { R60 A with st := .busy })⟩⟩
      ⟨fun s => False, fun s => h.next ≤ s.h.next ∧ s.h.blk L = .loop { R60 A with st := .busy } ∧ s.h.blk c4 = .live 1 [.frz ((wordA l l.length at_ [i]).map natD) .exact] ∧ s.h.blk c5 = .live 1 [.frz [] .nil], fun _ _ => False, fun _ _ => False⟩ := by
    rw [cg60_0b]
    have n1 : ¬ h.next = L := by omega
    generalize hbk : upd (upd (upd h.blk h.next (.live 6 [.agg [.int .i64 0, .int .i64 0, .int .i64 0, .int .i64 0, .int .i64 0, .int .i64 0]])) h.next (.live 6 [meetD at_ i x y])) L (.loop { R60 A with st := .busy }) = blk1
    have g1 : blk1 h.next = .live 6 [meetD at_ i x y] := by rw [← hbk]; simp [upd, n1]
    have g2 : blk1 c4 = .live 1 [.frz [] .nil] := by rw [← hbk]; simp [upd, show c4 ≠ L by omega, show c4 ≠ h.next by omega, h2]
    have g3 : blk1 c5 = .live 1 [.frz [] .nil] := by rw [← hbk]; simp [upd, show c5 ≠ L by omega, show c5 ≠ h.next by omega, h3]
    have g4 : blk1 L = .loop { R60 A with st := .busy } := by rw [← hbk]; simp [upd]
    have cl : ∀ h, callI E (.fn 87 []) [.frz (l.map arrD) tk, .int .i64 at_, .frz [.int .i64 i] .exact] h = some (.frz ((wordA l l.length at_ [i]).map natD) .exact, h, {}) := fun h => call87 (more := [i]) ho ha hL (by simp) h
    have heb : (x.2 != y.2) = true := by simp [he]
    have mu60 : E.pol.mu 60 62 = false := by decide
    refine .block (.assoc (.then xr60_5 (by simp [o60_5, builtinD, lenD, pD, argA, g1, meetD, heb]; rfl) ?_))
    refine .seq (.cond (v := true) (by simp [opd, upd]) (fun _ => ?_) (fun q => by cases q))
    refine .then xr60_6 (by simp [o60_6, builtinD, lenD, pD, argA, a4, a5, g1, g2, g3, meetD, cl, mu60, x45.symm, show List.range 1 = [0] from rfl, mapK, snapDepth, snap_int, kills]; rfl) (.ret ⟨by simp only; omega, ?_, ?_, ?_⟩)
    · simp [upds, upd, g4, show ¬ L = c4 by omega, show ¬ L = c5 by omega]
    · simp [upds, upd, x45]
    · simp [upds, upd]
  obtain ⟨xx, s2, q1, q2⟩ := e2
  cases xx with
  | exit i => exact q2.elim
  | goto l => exact q2.elim
  | normal => exact q2.elim
  | ret =>
    obtain ⟨z1, z2, z3, z4⟩ := q2
    have hcall := callI_yld (E := E) (l := L) (args := [meetD at_ i x y, .frz (l.map arrD) tk]) (h := h) (r := R60 A) (r1 := R60 A) (r2 := { R60 A with st := .busy }) (x := .ret) hL' rfl e1 (by simp [upd, show L ≠ h.next by omega, hL']) rfl q1 z2
    refine ⟨_, hcall, ?_, ?_, ?_, z1⟩
    · simp [R60, jumpOf]
    · simp only; rw [upd_ne _ _ _ _ (by omega)]; exact z3
    · simp only; rw [upd_ne _ _ _ _ (by omega)]; exact z4
end Go.Eng.E3
namespace Go.Eng.E3
open Go Go.Eng Go.Proofs
set_option maxRecDepth 100000
noncomputable def r51_0 : Code := navF Try.f51 [0]
noncomputable def o51_0 : List Oper := [sop (some 1) (.box 34 (.tmp 0)) none,
    sop (some 2) (.assign (.const (.slice none 0 0))) none]
theorem xr51_0 : Xr 51 49 r51_0 o51_0 [] := execI_reg' (by kernel_rfl)
noncomputable def r51_1 : Code := navF Try.f51 [1, 0]
noncomputable def o51_1 : List Oper := [sop (some 9) (.load 34 (.tmp 1)) none,
    sop (some 10) (.call { callee := (.value (.func 77)), args := #[(.tmp 9)], argTypes := #[34] }) none,
    sop (some 3) (.assign (.tmp 10)) none]
theorem xr51_1 : Xr 51 49 r51_1 o51_1 [] := execI_reg' (by kernel_rfl)
noncomputable def r51_2 : Code := navF Try.f51 [1, 1, 0]
noncomputable def o51_2 : List Oper := [sop (some 11) (.load 34 (.tmp 1)) none,
    sop (some 12) (.call { callee := (.value (.func 78)), args := #[(.tmp 11)], argTypes := #[34] }) none,
    sop (some 4) (.assign (.tmp 12)) none]
theorem xr51_2 : Xr 51 49 r51_2 o51_2 [] := execI_reg' (by kernel_rfl)
noncomputable def r51_3 : Code := navF Try.f51 [1, 1, 1, 0]
noncomputable def o51_3 : List Oper := [sop (some 5) (.assign (.const (.slice none 0 0))) none]
theorem xr51_3 : Xr 51 49 r51_3 o51_3 [] := execI_reg' (by kernel_rfl)
noncomputable def r51_4 : Code := navF Try.f51 [1, 1, 1, 1, 0, 0]
noncomputable def o51_4 : List Oper := [sop (some 6) (.assign (.const (.int .i64 0))) none]
theorem xr51_4 : Xr 51 49 r51_4 o51_4 [] := execI_reg' (by kernel_rfl)
noncomputable def l51_0 : Code := navF Try.f51 [1, 1, 1, 1, 0, 1, 0, 0]
noncomputable def r51_5 : Code := navF Try.f51 [1, 1, 1, 1, 0, 1, 0, 0, 0, 0]
noncomputable def o51_5 : List Oper := [sop (some 13) (.move (.tmp 6)) none,
    sop (some 14) (.move (.tmp 4)) none,
    sop (some 15) (.call { callee := (.builtin .len), args := #[(.tmp 14)], argTypes := #[62] }) none,
    sop (some 16) (.binOp .lss 3 (.tmp 13) (.tmp 15) 3) none]
theorem xr51_5 : Xr 51 49 r51_5 o51_5 [] := execI_reg' (by kernel_rfl)
noncomputable def r51_7 : Code := navF Try.f51 [1, 1, 1, 1, 0, 1, 0, 0, 1, 0, 0, 0]
noncomputable def o51_7 : List Oper := [sop (some 7) (.assign (.const (.int .i64 0))) none]
theorem xr51_7 : Xr 51 49 r51_7 o51_7 [] := execI_reg' (by kernel_rfl)
noncomputable def r51_8 : Code := navF Try.f51 [1, 1, 1, 1, 0, 1, 0, 0, 1, 0, 0, 1, 0, 0]
noncomputable def o51_8 : List Oper := [sop (some 8) (.assign (.const (.int .i64 0))) none]
theorem xr51_8 : Xr 51 49 r51_8 o51_8 [] := execI_reg' (by kernel_rfl)
noncomputable def l51_1 : Code := navF Try.f51 [1, 1, 1, 1, 0, 1, 0, 0, 1, 0, 0, 1, 0, 1, 0, 0]
noncomputable def r51_9 : Code := navF Try.f51 [1, 1, 1, 1, 0, 1, 0, 0, 1, 0, 0, 1, 0, 1, 0, 0, 0, 0]
noncomputable def o51_9 : List Oper := [sop (some 19) (.move (.tmp 8)) none,
    sop (some 20) (.move (.tmp 6)) none,
    sop (some 21) (.binOp .lss 3 (.tmp 19) (.tmp 20) 3) none]
theorem xr51_9 : Xr 51 49 r51_9 o51_9 [] := execI_reg' (by kernel_rfl)
noncomputable def r51_11 : Code := navF Try.f51 [1, 1, 1, 1, 0, 1, 0, 0, 1, 0, 0, 1, 0, 1, 0, 0, 1, 0, 0, 0]
noncomputable def o51_11 : List Oper := [sop (some 24) (.move (.tmp 3)) none,
    sop (some 25) (.move (.tmp 4)) none,
    sop (some 26) (.move (.tmp 8)) none,
    sop (some 27) (.indexAddr 62 (.tmp 25) (.tmp 26)) none,
    sop (some 28) (.load 3 (.tmp 27)) none,
    sop (some 29) (.indexAddr 62 (.tmp 24) (.tmp 28)) none,
    sop (some 30) (.load 3 (.tmp 29)) none,
    sop (some 31) (.move (.tmp 3)) none,
    sop (some 32) (.move (.tmp 4)) none,
    sop (some 33) (.move (.tmp 6)) none,
    sop (some 34) (.indexAddr 62 (.tmp 32) (.tmp 33)) none,
    sop (some 35) (.load 3 (.tmp 34)) none,
    sop (some 36) (.indexAddr 62 (.tmp 31) (.tmp 35)) none,
    sop (some 37) (.load 3 (.tmp 36)) none,
    sop (some 38) (.binOp .eql 3 (.tmp 30) (.tmp 37) 3) none]
theorem xr51_11 : Xr 51 49 r51_11 o51_11 [(4, 11), (6, 11), (4, 13), (6, 13)] := execI_reg' (by kernel_rfl)
noncomputable def r51_12 : Code := navF Try.f51 [1, 1, 1, 1, 0, 1, 0, 0, 1, 0, 0, 1, 0, 1, 0, 0, 1, 0, 0, 1, 0]
noncomputable def o51_12 : List Oper := [sop (some 7) (.assign (.const (.int .i64 1))) none]
theorem xr51_12 : Xr 51 49 r51_12 o51_12 [] := execI_reg' (by kernel_rfl)
noncomputable def r51_10 : Code := navF Try.f51 [1, 1, 1, 1, 0, 1, 0, 0, 1, 0, 0, 1, 0, 1, 0, 0, 1, 1]
noncomputable def o51_10 : List Oper := [sop (some 22) (.move (.tmp 8)) none,
    sop (some 23) (.binOp .add 3 (.tmp 22) (.const (.int .i64 1)) 3) none,
    sop (some 8) (.assign (.tmp 23)) none]
theorem xr51_10 : Xr 51 49 r51_10 o51_10 [] := execI_reg' (by kernel_rfl)
theorem cl51_1 : l51_1 = (.seq (.seq r51_9 (.cond (.tmp 21) .skip (.exit 2))) (.seq (.block 3 (.seq r51_11 (.cond (.tmp 38) r51_12 .skip))) r51_10)) := by kernel_rfl
noncomputable def r51_13 : Code := navF Try.f51 [1, 1, 1, 1, 0, 1, 0, 0, 1, 0, 0, 1, 1, 0]
noncomputable def o51_13 : List Oper := [sop (some 39) (.move (.tmp 7)) none,
    sop (some 40) (.binOp .eql 3 (.tmp 39) (.const (.int .i64 0)) 3) none]
theorem xr51_13 : Xr 51 49 r51_13 o51_13 [] := execI_reg' (by kernel_rfl)
noncomputable def r51_14 : Code := navF Try.f51 [1, 1, 1, 1, 0, 1, 0, 0, 1, 0, 0, 1, 1, 1, 0]
noncomputable def o51_14 : List Oper := [sop (some 41) (.move (.tmp 5)) none,
    sop (some 42) (.move (.tmp 4)) none,
    sop (some 43) (.move (.tmp 6)) none,
    sop (some 44) (.indexAddr 62 (.tmp 42) (.tmp 43)) none,
    sop (some 45) (.load 3 (.tmp 44)) none,
    sop (some 46) (.buildSlice 62 1 #[(0, (.tmp 45))]) none,
    sop (some 47) (.call { callee := (.builtin .append), args := #[(.tmp 41), (.tmp 46)], argTypes := #[62, 62] }) none,
    sop (some 5) (.assign (.tmp 47)) none]
theorem xr51_14 : Xr 51 49 r51_14 o51_14 [] := execI_reg' (by kernel_rfl)
noncomputable def r51_6 : Code := navF Try.f51 [1, 1, 1, 1, 0, 1, 0, 0, 1, 1]
noncomputable def o51_6 : List Oper := [sop (some 17) (.move (.tmp 6)) none,
    sop (some 18) (.binOp .add 3 (.tmp 17) (.const (.int .i64 1)) 3) none,
    sop (some 6) (.assign (.tmp 18)) none]
theorem xr51_6 : Xr 51 49 r51_6 o51_6 [] := execI_reg' (by kernel_rfl)
theorem cl51_0 : l51_0 = (.seq (.seq r51_5 (.cond (.tmp 16) .skip (.exit 0))) (.seq (.block 1 (.seq r51_7 (.seq (.seq r51_8 (.block 2 (.loop l51_1))) (.seq r51_13 (.cond (.tmp 40) r51_14 .skip))))) r51_6)) := by kernel_rfl
noncomputable def r51_15 : Code := navF Try.f51 [1, 1, 1, 1, 1, 0]
noncomputable def o51_15 : List Oper := [sop (some 48) (.move (.tmp 5)) none,
    sop (some 2) (.assign (.tmp 48)) none]
theorem xr51_15 : Xr 51 49 r51_15 o51_15 [] := execI_reg' (by kernel_rfl)
noncomputable def b51 : Code := (.seq r51_0 (.seq r51_1 (.seq r51_2 (.seq r51_3 (.seq (.seq r51_4 (.block 0 (.loop l51_0))) (.seq r51_15 .ret))))))
theorem body51 : Try.f51.body = some b51 := by kernel_rfl
theorem fn51 : E.fn 51 = some Try.f51 := by kernel_rfl
theorem run51 (args : List D) (h : H) (hl : args.length ≤ 49) : bodyI E 51 args h = resOf E [(.tmp 2)] (execI E 51 49 b51 ⟨argA args, h⟩) := bodyI_res fn51 body51 rfl rfl args h hl
noncomputable def r52_0 : Code := navF Try.f52 [0]
noncomputable def o52_0 : List Oper := [sop (some 1) (.box 34 (.tmp 0)) none,
    sop (some 2) (.assign (.const (.slice none 0 0))) none]
theorem xr52_0 : Xr 52 52 r52_0 o52_0 [] := execI_reg' (by kernel_rfl)
noncomputable def r52_1 : Code := navF Try.f52 [1, 0]
noncomputable def o52_1 : List Oper := [sop (some 10) (.load 34 (.tmp 1)) none,
    sop (some 11) (.call { callee := (.value (.func 77)), args := #[(.tmp 10)], argTypes := #[34] }) none,
    sop (some 3) (.assign (.tmp 11)) none]
theorem xr52_1 : Xr 52 52 r52_1 o52_1 [] := execI_reg' (by kernel_rfl)
noncomputable def r52_2 : Code := navF Try.f52 [1, 1, 0]
noncomputable def o52_2 : List Oper := [sop (some 12) (.load 34 (.tmp 1)) none,
    sop (some 13) (.call { callee := (.value (.func 51)), args := #[(.tmp 12)], argTypes := #[34] }) none,
    sop (some 4) (.assign (.tmp 13)) none]
theorem xr52_2 : Xr 52 52 r52_2 o52_2 [] := execI_reg' (by kernel_rfl)
noncomputable def r52_3 : Code := navF Try.f52 [1, 1, 1, 0]
noncomputable def o52_3 : List Oper := [sop (some 14) (.load 34 (.tmp 1)) none,
    sop (some 15) (.call { callee := (.value (.func 79)), args := #[(.tmp 14), (.const (.int .i64 0))], argTypes := #[34, 3] }) none,
    sop (some 5) (.assign (.tmp 15)) none]
theorem xr52_3 : Xr 52 52 r52_3 o52_3 [] := execI_reg' (by kernel_rfl)
noncomputable def r52_4 : Code := navF Try.f52 [1, 1, 1, 1, 0]
noncomputable def o52_4 : List Oper := [sop (some 6) (.assign (.const (.slice none 0 0))) none]
theorem xr52_4 : Xr 52 52 r52_4 o52_4 [] := execI_reg' (by kernel_rfl)
noncomputable def r52_5 : Code := navF Try.f52 [1, 1, 1, 1, 1, 0, 0]
noncomputable def o52_5 : List Oper := [sop (some 7) (.assign (.const (.int .i64 0))) none]
theorem xr52_5 : Xr 52 52 r52_5 o52_5 [] := execI_reg' (by kernel_rfl)
noncomputable def l52_0 : Code := navF Try.f52 [1, 1, 1, 1, 1, 0, 1, 0, 0]
noncomputable def r52_6 : Code := navF Try.f52 [1, 1, 1, 1, 1, 0, 1, 0, 0, 0, 0]
noncomputable def o52_6 : List Oper := [sop (some 16) (.move (.tmp 7)) none,
    sop (some 17) (.move (.tmp 3)) none,
    sop (some 18) (.call { callee := (.builtin .len), args := #[(.tmp 17)], argTypes := #[62] }) none,
    sop (some 19) (.binOp .lss 3 (.tmp 16) (.tmp 18) 3) none]
theorem xr52_6 : Xr 52 52 r52_6 o52_6 [] := execI_reg' (by kernel_rfl)
noncomputable def r52_8 : Code := navF Try.f52 [1, 1, 1, 1, 1, 0, 1, 0, 0, 1, 0, 0, 0]
noncomputable def o52_8 : List Oper := [sop (some 8) (.assign (.const (.int .i64 (-1)))) none]
theorem xr52_8 : Xr 52 52 r52_8 o52_8 [] := execI_reg' (by kernel_rfl)
noncomputable def r52_9 : Code := navF Try.f52 [1, 1, 1, 1, 1, 0, 1, 0, 0, 1, 0, 0, 1, 0, 0]
noncomputable def o52_9 : List Oper := [sop (some 9) (.assign (.const (.int .i64 0))) none]
theorem xr52_9 : Xr 52 52 r52_9 o52_9 [] := execI_reg' (by kernel_rfl)
noncomputable def l52_1 : Code := navF Try.f52 [1, 1, 1, 1, 1, 0, 1, 0, 0, 1, 0, 0, 1, 0, 1, 0, 0]
noncomputable def r52_10 : Code := navF Try.f52 [1, 1, 1, 1, 1, 0, 1, 0, 0, 1, 0, 0, 1, 0, 1, 0, 0, 0, 0]
noncomputable def o52_10 : List Oper := [sop (some 22) (.move (.tmp 9)) none,
    sop (some 23) (.move (.tmp 4)) none,
    sop (some 24) (.call { callee := (.builtin .len), args := #[(.tmp 23)], argTypes := #[62] }) none,
    sop (some 25) (.binOp .lss 3 (.tmp 22) (.tmp 24) 3) none]
theorem xr52_10 : Xr 52 52 r52_10 o52_10 [] := execI_reg' (by kernel_rfl)
noncomputable def r52_12 : Code := navF Try.f52 [1, 1, 1, 1, 1, 0, 1, 0, 0, 1, 0, 0, 1, 0, 1, 0, 0, 1, 0, 0, 0]
noncomputable def o52_12 : List Oper := [sop (some 28) (.move (.tmp 5)) none,
    sop (some 29) (.move (.tmp 7)) none,
    sop (some 30) (.indexAddr 123 (.tmp 28) (.tmp 29)) none,
    sop (some 31) (.load 4 (.tmp 30)) none,
    sop (some 32) (.move (.tmp 31)) none,
    sop (some 33) (.move (.tmp 3)) (some (4, true)),
    sop (some 34) (.move (.tmp 4)) (some (4, true)),
    sop (some 35) (.move (.tmp 9)) (some (4, true)),
    sop (some 36) (.indexAddr 62 (.tmp 34) (.tmp 35)) (some (4, true)),
    sop (some 37) (.load 3 (.tmp 36)) (some (4, true)),
    sop (some 38) (.indexAddr 62 (.tmp 33) (.tmp 37)) (some (4, true)),
    sop (some 39) (.load 3 (.tmp 38)) (some (4, true)),
    sop (some 40) (.move (.tmp 3)) (some (4, true)),
    sop (some 41) (.move (.tmp 7)) (some (4, true)),
    sop (some 42) (.indexAddr 62 (.tmp 40) (.tmp 41)) (some (4, true)),
    sop (some 43) (.load 3 (.tmp 42)) (some (4, true)),
    sop (some 44) (.binOp .eql 3 (.tmp 39) (.tmp 43) 3) (some (4, true)),
    sop (some 45) (.pick (.tmp 32) (.tmp 44) (.const (.bool false))) none]
theorem xr52_12 : Xr 52 52 r52_12 o52_12 [(9, 15), (11, 15)] := execI_reg' (by kernel_rfl)
noncomputable def r52_13 : Code := navF Try.f52 [1, 1, 1, 1, 1, 0, 1, 0, 0, 1, 0, 0, 1, 0, 1, 0, 0, 1, 0, 0, 1, 0]
noncomputable def o52_13 : List Oper := [sop (some 46) (.move (.tmp 9)) none,
    sop (some 8) (.assign (.tmp 46)) none]
theorem xr52_13 : Xr 52 52 r52_13 o52_13 [] := execI_reg' (by kernel_rfl)
noncomputable def r52_11 : Code := navF Try.f52 [1, 1, 1, 1, 1, 0, 1, 0, 0, 1, 0, 0, 1, 0, 1, 0, 0, 1, 1]
noncomputable def o52_11 : List Oper := [sop (some 26) (.move (.tmp 9)) none,
    sop (some 27) (.binOp .add 3 (.tmp 26) (.const (.int .i64 1)) 3) none,
    sop (some 9) (.assign (.tmp 27)) none]
theorem xr52_11 : Xr 52 52 r52_11 o52_11 [] := execI_reg' (by kernel_rfl)
theorem cl52_1 : l52_1 = (.seq (.seq r52_10 (.cond (.tmp 25) .skip (.exit 2))) (.seq (.block 3 (.seq r52_12 (.cond (.tmp 45) r52_13 .skip))) r52_11)) := by kernel_rfl
noncomputable def r52_14 : Code := navF Try.f52 [1, 1, 1, 1, 1, 0, 1, 0, 0, 1, 0, 0, 1, 1]
noncomputable def o52_14 : List Oper := [sop (some 47) (.move (.tmp 6)) none,
    sop (some 48) (.move (.tmp 8)) none,
    sop (some 49) (.buildSlice 62 1 #[(0, (.tmp 48))]) none,
    sop (some 50) (.call { callee := (.builtin .append), args := #[(.tmp 47), (.tmp 49)], argTypes := #[62, 62] }) none,
    sop (some 6) (.assign (.tmp 50)) none]
theorem xr52_14 : Xr 52 52 r52_14 o52_14 [] := execI_reg' (by kernel_rfl)
noncomputable def r52_7 : Code := navF Try.f52 [1, 1, 1, 1, 1, 0, 1, 0, 0, 1, 1]
noncomputable def o52_7 : List Oper := [sop (some 20) (.move (.tmp 7)) none,
    sop (some 21) (.binOp .add 3 (.tmp 20) (.const (.int .i64 1)) 3) none,
    sop (some 7) (.assign (.tmp 21)) none]
theorem xr52_7 : Xr 52 52 r52_7 o52_7 [] := execI_reg' (by kernel_rfl)
theorem cl52_0 : l52_0 = (.seq (.seq r52_6 (.cond (.tmp 19) .skip (.exit 0))) (.seq (.block 1 (.seq r52_8 (.seq (.seq r52_9 (.block 2 (.loop l52_1))) r52_14))) r52_7)) := by kernel_rfl
noncomputable def r52_15 : Code := navF Try.f52 [1, 1, 1, 1, 1, 1, 0]
noncomputable def o52_15 : List Oper := [sop (some 51) (.move (.tmp 6)) none,
    sop (some 2) (.assign (.tmp 51)) none]
theorem xr52_15 : Xr 52 52 r52_15 o52_15 [] := execI_reg' (by kernel_rfl)
noncomputable def b52 : Code := (.seq r52_0 (.seq r52_1 (.seq r52_2 (.seq r52_3 (.seq r52_4 (.seq (.seq r52_5 (.block 0 (.loop l52_0))) (.seq r52_15 .ret)))))))
theorem body52 : Try.f52.body = some b52 := by kernel_rfl
theorem fn52 : E.fn 52 = some Try.f52 := by kernel_rfl
theorem run52 (args : List D) (h : H) (hl : args.length ≤ 52) : bodyI E 52 args h = resOf E [(.tmp 2)] (execI E 52 52 b52 ⟨argA args, h⟩) := bodyI_res fn52 body52 rfl rfl args h hl
noncomputable def r20_0 : Code := navF Try.f20 [0]
noncomputable def o20_0 : List Oper := [sop (some 1) (.box 34 (.tmp 0)) none,
    sop (some 2) (.alloc 34) none]
theorem xr20_0 : Xr 20 62 r20_0 o20_0 [] := execI_reg' (by kernel_rfl)
noncomputable def r20_1 : Code := navF Try.f20 [1, 0]
noncomputable def o20_1 : List Oper := [sop (some 10) (.load 34 (.tmp 1)) none,
    sop (some 11) (.call { callee := (.value (.func 51)), args := #[(.tmp 10)], argTypes := #[34] }) none,
    sop (some 3) (.assign (.tmp 11)) none]
theorem xr20_1 : Xr 20 62 r20_1 o20_1 [] := execI_reg' (by kernel_rfl)
noncomputable def r20_2 : Code := navF Try.f20 [1, 1, 0]
noncomputable def o20_2 : List Oper := [sop (some 12) (.load 34 (.tmp 1)) none,
    sop (some 13) (.call { callee := (.value (.func 52)), args := #[(.tmp 12)], argTypes := #[34] }) none,
    sop (some 4) (.assign (.tmp 13)) none]
theorem xr20_2 : Xr 20 62 r20_2 o20_2 [] := execI_reg' (by kernel_rfl)
noncomputable def r20_3 : Code := navF Try.f20 [1, 1, 1, 0]
noncomputable def o20_3 : List Oper := [sop (some 14) (.fieldAddr 34 (.tmp 1) 0) none,
    sop (some 15) (.load 3 (.tmp 14)) none,
    sop (some 16) (.fieldAddr 34 (.tmp 1) 1) none,
    sop (some 17) (.load 3 (.tmp 16)) none,
    sop (some 18) (.build 34 #[(0, (.tmp 15)), (1, (.tmp 17))]) none,
    sop (some 5) (.alloc 34) none,
    sop none (.store 34 (.tmp 5) (.tmp 18)) none]
theorem xr20_3 : Xr 20 62 r20_3 o20_3 [] := execI_reg' (by kernel_rfl)
noncomputable def r20_4 : Code := navF Try.f20 [1, 1, 1, 1, 0, 0]
noncomputable def o20_4 : List Oper := [sop (some 6) (.assign (.const (.int .i64 0))) none]
theorem xr20_4 : Xr 20 62 r20_4 o20_4 [] := execI_reg' (by kernel_rfl)
noncomputable def l20_0 : Code := navF Try.f20 [1, 1, 1, 1, 0, 1, 0, 0]
noncomputable def r20_5 : Code := navF Try.f20 [1, 1, 1, 1, 0, 1, 0, 0, 0, 0]
noncomputable def o20_5 : List Oper := [sop (some 19) (.move (.tmp 6)) none,
    sop (some 20) (.move (.tmp 3)) none,
    sop (some 21) (.call { callee := (.builtin .len), args := #[(.tmp 20)], argTypes := #[62] }) none,
    sop (some 22) (.binOp .lss 3 (.tmp 19) (.tmp 21) 3) none]
theorem xr20_5 : Xr 20 62 r20_5 o20_5 [] := execI_reg' (by kernel_rfl)
noncomputable def r20_7 : Code := navF Try.f20 [1, 1, 1, 1, 0, 1, 0, 0, 1, 0, 0, 0]
noncomputable def o20_7 : List Oper := [sop (some 7) (.assign (.const (.slice none 0 0))) none]
theorem xr20_7 : Xr 20 62 r20_7 o20_7 [] := execI_reg' (by kernel_rfl)
noncomputable def r20_8 : Code := navF Try.f20 [1, 1, 1, 1, 0, 1, 0, 0, 1, 0, 0, 1, 0, 0]
noncomputable def o20_8 : List Oper := [sop (some 8) (.assign (.const (.int .i64 0))) none]
theorem xr20_8 : Xr 20 62 r20_8 o20_8 [] := execI_reg' (by kernel_rfl)
noncomputable def l20_1 : Code := navF Try.f20 [1, 1, 1, 1, 0, 1, 0, 0, 1, 0, 0, 1, 0, 1, 0, 0]
noncomputable def r20_9 : Code := navF Try.f20 [1, 1, 1, 1, 0, 1, 0, 0, 1, 0, 0, 1, 0, 1, 0, 0, 0, 0]
noncomputable def o20_9 : List Oper := [sop (some 25) (.move (.tmp 8)) none,
    sop (some 26) (.fieldAddr 34 (.tmp 1) 0) none,
    sop (some 27) (.load 3 (.tmp 26)) none,
    sop (some 28) (.binOp .lss 3 (.tmp 25) (.tmp 27) 3) none]
theorem xr20_9 : Xr 20 62 r20_9 o20_9 [] := execI_reg' (by kernel_rfl)
noncomputable def r20_11 : Code := navF Try.f20 [1, 1, 1, 1, 0, 1, 0, 0, 1, 0, 0, 1, 0, 1, 0, 0, 1, 0, 0, 0]
noncomputable def o20_11 : List Oper := [sop (some 31) (.fieldAddr 34 (.tmp 1) 2) none,
    sop (some 32) (.load 32 (.tmp 31)) none,
    sop (some 33) (.move (.tmp 3)) none,
    sop (some 34) (.move (.tmp 6)) none,
    sop (some 35) (.indexAddr 62 (.tmp 33) (.tmp 34)) none,
    sop (some 36) (.load 3 (.tmp 35)) none,
    sop (some 37) (.indexAddr 32 (.tmp 32) (.tmp 36)) none,
    sop (some 38) (.load 72 (.tmp 37)) none,
    sop (some 39) (.move (.tmp 8)) none,
    sop (some 40) (.indexAddr 72 (.tmp 38) (.tmp 39)) none,
    sop (some 41) (.load 55 (.tmp 40)) none,
    sop (some 9) (.alloc 55) none,
    sop none (.store 55 (.tmp 9) (.tmp 41)) none]
theorem xr20_11 : Xr 20 62 r20_11 o20_11 [(1, 5), (1, 11), (5, 11), (7, 11), (10, 11)] := execI_reg' (by kernel_rfl)
noncomputable def r20_12 : Code := navF Try.f20 [1, 1, 1, 1, 0, 1, 0, 0, 1, 0, 0, 1, 0, 1, 0, 0, 1, 0, 0, 1, 0, 0]
noncomputable def o20_12 : List Oper := [sop (some 42) (.fieldAddr 55 (.tmp 9) 0) none,
    sop (some 43) (.load 3 (.tmp 42)) none,
    sop (some 44) (.binOp .geq 3 (.tmp 43) (.const (.int .i64 0)) 3) none]
theorem xr20_12 : Xr 20 62 r20_12 o20_12 [] := execI_reg' (by kernel_rfl)
noncomputable def r20_13 : Code := navF Try.f20 [1, 1, 1, 1, 0, 1, 0, 0, 1, 0, 0, 1, 0, 1, 0, 0, 1, 0, 0, 1, 0, 1, 0]
noncomputable def o20_13 : List Oper := [sop (some 45) (.move (.tmp 4)) none,
    sop (some 46) (.fieldAddr 55 (.tmp 9) 0) none,
    sop (some 47) (.load 3 (.tmp 46)) none,
    sop (some 48) (.indexAddr 62 (.tmp 45) (.tmp 47)) none,
    sop (some 49) (.load 3 (.tmp 48)) none,
    sop (some 50) (.fieldAddr 55 (.tmp 9) 0) none,
    sop none (.store 3 (.tmp 50) (.tmp 49)) none]
theorem xr20_13 : Xr 20 62 r20_13 o20_13 [] := execI_reg' (by kernel_rfl)
noncomputable def r20_14 : Code := navF Try.f20 [1, 1, 1, 1, 0, 1, 0, 0, 1, 0, 0, 1, 0, 1, 0, 0, 1, 0, 0, 1, 1]
noncomputable def o20_14 : List Oper := [sop (some 51) (.move (.tmp 7)) none,
    sop (some 52) (.load 55 (.tmp 9)) none,
    sop (some 53) (.buildSlice 72 1 #[(0, (.tmp 52))]) none,
    sop (some 54) (.call { callee := (.builtin .append), args := #[(.tmp 51), (.tmp 53)], argTypes := #[72, 72] }) none,
    sop (some 7) (.assign (.tmp 54)) none]
theorem xr20_14 : Xr 20 62 r20_14 o20_14 [] := execI_reg' (by kernel_rfl)
noncomputable def r20_10 : Code := navF Try.f20 [1, 1, 1, 1, 0, 1, 0, 0, 1, 0, 0, 1, 0, 1, 0, 0, 1, 1]
noncomputable def o20_10 : List Oper := [sop (some 29) (.move (.tmp 8)) none,
    sop (some 30) (.binOp .add 3 (.tmp 29) (.const (.int .i64 1)) 3) none,
    sop (some 8) (.assign (.tmp 30)) none]
theorem xr20_10 : Xr 20 62 r20_10 o20_10 [] := execI_reg' (by kernel_rfl)
theorem cl20_1 : l20_1 = (.seq (.seq r20_9 (.cond (.tmp 28) .skip (.exit 2))) (.seq (.block 3 (.seq r20_11 (.seq (.seq r20_12 (.cond (.tmp 44) r20_13 .skip)) r20_14))) r20_10)) := by kernel_rfl
noncomputable def r20_15 : Code := navF Try.f20 [1, 1, 1, 1, 0, 1, 0, 0, 1, 0, 0, 1, 1]
noncomputable def o20_15 : List Oper := [sop (some 55) (.fieldAddr 34 (.tmp 5) 2) none,
    sop (some 56) (.load 32 (.tmp 55)) none,
    sop (some 57) (.move (.tmp 7)) none,
    sop (some 58) (.buildSlice 32 1 #[(0, (.tmp 57))]) none,
    sop (some 59) (.call { callee := (.builtin .append), args := #[(.tmp 56), (.tmp 58)], argTypes := #[32, 32] }) none,
    sop (some 60) (.fieldAddr 34 (.tmp 5) 2) none,
    sop none (.store 32 (.tmp 60) (.tmp 59)) none]
theorem xr20_15 : Xr 20 62 r20_15 o20_15 [] := execI_reg' (by kernel_rfl)
noncomputable def r20_6 : Code := navF Try.f20 [1, 1, 1, 1, 0, 1, 0, 0, 1, 1]
noncomputable def o20_6 : List Oper := [sop (some 23) (.move (.tmp 6)) none,
    sop (some 24) (.binOp .add 3 (.tmp 23) (.const (.int .i64 1)) 3) none,
    sop (some 6) (.assign (.tmp 24)) none]
theorem xr20_6 : Xr 20 62 r20_6 o20_6 [] := execI_reg' (by kernel_rfl)
theorem cl20_0 : l20_0 = (.seq (.seq r20_5 (.cond (.tmp 22) .skip (.exit 0))) (.seq (.block 1 (.seq r20_7 (.seq (.seq r20_8 (.block 2 (.loop l20_1))) r20_15))) r20_6)) := by kernel_rfl
noncomputable def r20_16 : Code := navF Try.f20 [1, 1, 1, 1, 1, 0]
noncomputable def o20_16 : List Oper := [sop (some 61) (.load 34 (.tmp 5)) none,
    sop none (.store 34 (.tmp 2) (.tmp 61)) none]
theorem xr20_16 : Xr 20 62 r20_16 o20_16 [] := execI_reg' (by kernel_rfl)
noncomputable def b20 : Code := (.seq r20_0 (.seq r20_1 (.seq r20_2 (.seq r20_3 (.seq (.seq r20_4 (.block 0 (.loop l20_0))) (.seq r20_16 .ret))))))
theorem body20 : Try.f20.body = some b20 := by kernel_rfl
theorem fn20 : E.fn 20 = some Try.f20 := by kernel_rfl
theorem run20 (args : List D) (h : H) (hl : args.length ≤ 62) : bodyI E 20 args h = resOf E [(.cell 2 34)] (execI E 20 62 b20 ⟨argA args, h⟩) := bodyI_res fn20 body20 rfl rfl args h hl
end Go.Eng.E3
namespace Go.Eng.E3
open Go Go.Eng Go.Proofs
set_option maxRecDepth 100000
attribute [local simp] execR runOps stepOp wantedD evalOp opd upd St.put Eff.apply upds looseOk FP.free FP.idle apart Eff.fp ofVal loadD storeD partD setPart indexAddrD isShift arith unD callOp mapO D.okc pickD buildable buildD placeD convD
set_option linter.unusedSimpArgs false
set_option maxHeartbeats 4000000
structure Lv (m : M) (f N : Nat) (l : List (List Nat)) (is : List Bool) (ws more : List (List Nat)) (st : St) : Prop where
  h1 : st.A 1 = .int .i64 f
  h2 : st.A 2 = .ptr 0 0 0
  h6 : st.A 6 = .sl 6 1 0 m.rows.length true
  h7 : st.A 7 = .sl 11 1 0 m.rows.length true
  hb : st.h.blk 0 = .live 3 [encM m]
  hl : ∃ pl : List (List Nat × Tok), st.h.blk 6 = .live 1 (pl.map wD) ∧ pl.map (·.1) = l
  hi : st.h.blk 11 = .live 1 (is.map D.bool)
  ll : l.length = m.rows.length
  il : is.length = m.rows.length
  h8 : WL st.h (st.A 8) ws 12 N
  h9 : WL st.h (st.A 9) more N st.h.next
  hN : 12 ≤ N
  hn : N ≤ st.h.next
theorem Lv.step {m : M} {f N : Nat} {l : List (List Nat)} {is : List Bool} {ws more : List (List Nat)} {A A' : Nat → D} {h : H} {nx : Nat} (v : Lv m f N l is ws more ⟨A, h⟩) (e : ∀ t, t < 10 → A' t = A t) (hn : h.next ≤ nx) : Lv m f N l is ws more ⟨A', ⟨nx, h.blk⟩⟩ := by
  obtain ⟨q1, q2, q3, q4, q5, q6, q7, q8, q9, q10, q11, q12, q13⟩ := v
  simp only at q1 q2 q3 q4 q5 q6 q7 q10 q11 q13
  refine ⟨(e 1 (by omega)).trans q1, (e 2 (by omega)).trans q2, (e 6 (by omega)).trans q3, (e 7 (by omega)).trans q4, q5, q6, q7, q8, q9, ?_, ?_, q12, by simp only; omega⟩
  · simp only [e 8 (by omega)]; exact q10.frame (fun _ _ _ => rfl) (Nat.le_refl _)
  · simp only [e 9 (by omega)]; exact q11.frame (fun _ _ _ => rfl) hn
theorem WL.low {h : H} {v : D} {l : List (List Nat)} {lo lo' hi : Nat} (m : WL h v l lo hi) (e : lo' ≤ lo) : WL h v l lo' hi := by
  rcases m with m | ⟨b, ps, ex, h1, h2, h3, h4, h5⟩
  · exact .inl m
  · exact .inr ⟨b, ps, ex, h1, h2, h3, by omega, h5⟩
def childs (w : List Nat) (i : Nat) : List (List Nat) := (List.range i).map fun i => w ++ [i]
theorem childs_succ (w : List Nat) (i : Nat) : childs w (i + 1) = childs w i ++ [w ++ [i]] := by simp [childs, List.range_succ]
structure J98c (m : M) (f N : Nat) (l : List (List Nat)) (is : List Bool) (ws more : List (List Nat)) (w : List Nat) (k : Nat) (j : Nat) (st : St) : Prop where
  le : j ≤ m.ins
  lv : Lv m f N l is ws (more ++ childs w (m.ins - j)) st
  h10 : st.A 10 = .int .i64 k
  h12 : st.A 12 = .int .i64 ((m.ins - j : Nat) : Int)
theorem loop98c {m : M} (hv : Valid m) {f N k : Nat} {l : List (List Nat)} {is : List Bool} {ws more : List (List Nat)} {w : List Nat} (hw : ws[k]? = some w) (hwl : w.length < 2 ^ 39) (hml : more.length < 2 ^ 38) {Q : Po} (hQ : ∀ st, J98c m f N l is ws more w k 0 st → Q.x 4 st) (j : Nat) (st : St) (hI : J98c m f N l is ws more w k j st) :
    V E 98 84 (.loop l98_2) st Q := by
  have i2 := hv.i2
  refine V.count (J98c m f N l is ws more w k) ?_ ?_ j st hI
  · rintro j ⟨A, h⟩ ⟨le, lv, h10, h12⟩
    have hlt : m.ins - (j + 1) < m.ins := by omega
    generalize hi : m.ins - (j + 1) = i at *
    have hk' : m.ins - j = i + 1 := by omega
    have hwr : IntKind.i64.wrap ((i : Int) + 1) = ((i + 1 : Nat) : Int) := by rw [wrap_id] <;> omega
    have h2 := lv.h2
    have hb := lv.hb
    simp only at h2 hb h10 h12
    rw [cl98_2]
    refine .assoc (.then xr98_14 (by simp [o98_14, builtinD, lenD, pD, argA, h2, h12, hb, encM]; rfl) ?_)
    refine .head (by simp [opd, upd]; rfl) (fun _ => ?_) (fun hf => by simp [hlt] at hf)
    have lv1 := lv.step (A' := upd (upd (upd (upd A 63 (.int .i64 i)) 64 (.ptr 0 0 0)) 65 (.int .i64 m.ins)) 66 (.bool (decide (i < m.ins)))) (nx := h.next + 4) (fun t ht => by simp [upd, show ∀ c, 63 ≤ c → ¬ t = c from fun c h => by omega]) (by omega)
    generalize hA1 : upd (upd (upd (upd A 63 (D.int .i64 i)) 64 (.ptr 0 0 0)) 65 (.int .i64 m.ins)) 66 (.bool (decide (i < m.ins))) = A1 at *
    have e10 : A1 10 = .int .i64 k := by rw [← hA1]; simp [upd, h10]
    have e12 : A1 12 = .int .i64 i := by rw [← hA1]; simp [upd, h12]
    obtain ⟨A', h', e0, e1, e2, e3, e4⟩ := push98 (lo := N) (lv1.h8.low (Nat.zero_le _)) lv1.h9 e10 e12 hw hwl (by simp [childs]; omega) lv1.hn
    refine .seq (.block (.reg xr98_16 (by simpa [upds] using e0) ?_))
    have lv2 : Lv m f N l is ws (more ++ childs w i ++ [w ++ [i]]) ⟨A', h'⟩ := by
      obtain ⟨q1, q2, q3, q4, q5, q6, q7, q8, q9, q10, q11, q12, q13⟩ := lv1
      simp only at q1 q2 q3 q4 q5 q6 q7 q10 q11 q13 e2
      refine ⟨(e1 1 (by omega) (by omega)).trans q1, (e1 2 (by omega) (by omega)).trans q2, (e1 6 (by omega) (by omega)).trans q3, (e1 7 (by omega) (by omega)).trans q4, (e3 0 (by omega)).trans q5, ?_, (e3 11 (by omega)).trans q7, q8, q9, ?_, e4, q12, by simp only; omega⟩
      · obtain ⟨pl, p1, p2⟩ := q6; exact ⟨pl, (e3 6 (by omega)).trans p1, p2⟩
      · simp only [e1 8 (by omega) (by omega)]; exact q10.frame (fun b _ hb => e3 b hb) (Nat.le_refl _)
    have g12 : A' 12 = .int .i64 i := by rw [e1 12 (by omega) (by omega)]; exact e12
    have g10 : A' 10 = .int .i64 k := by rw [e1 10 (by omega) (by omega)]; exact e10
    refine .reg xr98_15 (by simp [o98_15, builtinD, lenD, pD, argA, g12]; rfl) ⟨by omega, ?_, ?_, ?_⟩
    · rw [hk', childs_succ, ← List.append_assoc]
      exact lv2.step (fun t ht => by simp [upd, show t ≠ 67 by omega, show t ≠ 68 by omega, show t ≠ 12 by omega]) (by simp)
    · simp [upd, g10]
    · simp [upd, hk', hwr]
  · rintro ⟨A, h⟩ ⟨le, lv, h10, h12⟩
    have h2 := lv.h2
    have hb := lv.hb
    simp only at h2 hb h10 h12
    rw [cl98_2]
    refine .assoc (.then xr98_14 (by simp [o98_14, builtinD, lenD, pD, argA, h2, h12, hb, encM]; rfl) ?_)
    refine .head (by simp [opd, upd]; rfl) (fun hf => by simp at hf) (fun _ => hQ _ ⟨by omega, ?_, ?_, ?_⟩)
    · exact lv.step (fun t ht => by simp [upd, show ∀ c, 63 ≤ c → ¬ t = c from fun c h => by omega]) (by simp)
    · simp [upd, h10]
    · simp [upd, h12]
structure PS where
  l : List (List Nat)
  is : List Bool
  more : List (List Nat)
def visitM (m : M) (f : Nat) (p : PS) (w : List Nat) : PS :=
  let t := aftM m f w
  if t < 0 ∨ p.is.getD t.toNat false = true then p else ⟨p.l.set t.toNat w, p.is.set t.toNat true, p.more ++ childs w m.ins⟩
structure Ok98 (m : M) (c0 : Nat) (p : PS) : Prop where
  ll : p.l.length = m.rows.length
  il : p.is.length = m.rows.length
  cnt : p.more.length + m.ins * c0 = m.ins * p.is.count true
theorem visit_ok {m : M} {f c0 : Nat} {p : PS} {w : List Nat} (hs : StOk m (aftM m f w)) (o : Ok98 m c0 p) : Ok98 m c0 (visitM m f p w) := by
  unfold visitM
  simp only
  split
  · exact o
  · rename_i hc
    have hc1 : ¬ aftM m f w < 0 := fun e => hc (.inl e)
    have hc2 : ¬ p.is.getD (aftM m f w).toNat false = true := fun e => hc (.inr e)
    have hlt : (aftM m f w).toNat < p.is.length := by rw [o.il]; rcases hs with e | e <;> omega
    have hfalse : p.is[(aftM m f w).toNat] = false := by simpa [hlt] using hc2
    refine ⟨by simpa using o.ll, by simpa using o.il, ?_⟩
    have : (p.is.set (aftM m f w).toNat true).count true = p.is.count true + 1 := by
      rw [List.count_set hlt, hfalse]; simp
    simp only [this, List.length_append, childs, List.length_map, List.length_range]
    have := o.cnt
    rw [Nat.mul_add]; omega
end Go.Eng.E3
namespace Go.Eng.E3
open Go Go.Eng Go.Proofs
set_option maxRecDepth 100000
attribute [local simp] execR runOps stepOp wantedD evalOp opd upd St.put Eff.apply upds looseOk FP.free FP.idle apart Eff.fp ofVal loadD storeD partD setPart indexAddrD isShift arith unD callOp mapO D.okc pickD buildable buildD placeD convD
set_option linter.unusedSimpArgs false
set_option maxHeartbeats 4000000
def foldM (m : M) (f : Nat) (p0 : PS) (ws : List (List Nat)) : PS := ws.foldl (visitM m f) p0
def WsOk (m : M) (ws : List (List Nat)) : Prop := ∀ w ∈ ws, (∀ j ∈ w, j < m.ins) ∧ w.length < 2 ^ 38
theorem fold_ok {m : M} (hv : Valid m) {f c0 : Nat} (hf : f < m.rows.length) : ∀ (ws : List (List Nat)) (p : PS), WsOk m ws → Ok98 m c0 p → Ok98 m c0 (foldM m f p ws)
  | [], _, _, o => o
  | w :: ws, p, hw, o => by
    have hs : ∀ (u : List Nat) (s : Int), StOk m s → (∀ j ∈ u, j < m.ins) → StOk m (aftM m s u) := by
      intro u
      induction u with
      | nil => exact fun _ hs _ => hs
      | cons i u ih => intro s hs hu; exact ih _ (nextM_st hv hs (hu i (List.mem_cons_self ..))) (fun j hj => hu j (List.mem_cons_of_mem _ hj))
    have h1 := hw w (List.mem_cons_self ..)
    exact fold_ok hv hf ws _ (fun u hu => hw u (List.mem_cons_of_mem _ hu)) (visit_ok (hs w f (.inr ⟨by omega, by omega⟩) h1.1) o)
theorem aft_ok {m : M} (hv : Valid m) : ∀ (u : List Nat) (s : Int), StOk m s → (∀ j ∈ u, j < m.ins) → StOk m (aftM m s u)
  | [], _, hs, _ => hs
  | i :: u, s, hs, hu => aft_ok hv u _ (nextM_st hv hs (hu i (List.mem_cons_self ..))) (fun j hj => hu j (List.mem_cons_of_mem _ hj))
structure J98b (m : M) (f N c0 : Nat) (p0 : PS) (ws : List (List Nat)) (k : Nat) (st : St) : Prop where
  le : k ≤ ws.length
  lv : Lv m f N (foldM m f p0 (ws.take (ws.length - k))).l (foldM m f p0 (ws.take (ws.length - k))).is ws (foldM m f p0 (ws.take (ws.length - k))).more st
  h10 : st.A 10 = .int .i64 ((ws.length - k : Nat) : Int)
theorem loop98b {m : M} (hv : Valid m) {f N c0 : Nat} (hf : f < m.rows.length) {p0 : PS} {ws : List (List Nat)} (hws : WsOk m ws) (hwl : ws.length < 2 ^ 40) (ho : Ok98 m c0 p0) {Q : Po} (hQ : ∀ st, J98b m f N c0 p0 ws 0 st → Q.x 2 st) (k : Nat) (st : St) (hI : J98b m f N c0 p0 ws k st) :
    V E 98 84 (.loop l98_1) st Q := by
  have i2 := hv.i2
  have r2 := hv.r2
  refine V.count (J98b m f N c0 p0 ws) ?_ ?_ k st hI
  · rintro k ⟨A, h⟩ ⟨le, lv, h10⟩
    have hlt : ws.length - (k + 1) < ws.length := by omega
    generalize hi : ws.length - (k + 1) = i at *
    have hk' : ws.length - k = i + 1 := by omega
    have hwr : IntKind.i64.wrap ((i : Int) + 1) = ((i + 1 : Nat) : Int) := by rw [wrap_id] <;> omega
    have htk : foldM m f p0 (ws.take (i + 1)) = visitM m f (foldM m f p0 (ws.take i)) ws[i] := by
      rw [List.take_succ_eq_append_getElem hlt]; simp only [foldM, List.foldl_append, List.foldl_cons, List.foldl_nil]
    have hok := fold_ok hv hf (ws.take i) p0 (fun w hw => hws w (List.mem_of_mem_take hw)) ho
    generalize foldM m f p0 (ws.take i) = p at *
    have hwi := hws ws[i] (List.getElem_mem hlt)
    have hst := aft_ok hv ws[i] f (.inr ⟨by omega, by omega⟩) hwi.1
    have hgw : ws[i]? = some ws[i] := List.getElem?_eq_getElem hlt
    generalize ws[i] = w at *
    have hml : p.more.length < 2 ^ 38 := by
      have h1 := hok.cnt
      have h2 : p.is.count true ≤ m.rows.length := by rw [← hok.il]; exact List.count_le_length
      have h3 : m.ins * p.is.count true ≤ 16 * 64 := Nat.mul_le_mul i2 (by omega)
      omega
    have lv0 := lv
    obtain ⟨h1, h2, h6, h7, hb, ⟨pl, p5, p5f⟩, hi10, ll, il, h8, h9, hN, hn⟩ := lv0
    simp only at h1 h2 h6 h7 hb p5 hi10 h8 h9 hn h10
    rcases h8 with ⟨rfl, _⟩ | ⟨b8, p8, x8, v8, g8, e8, g8a, g8b⟩
    · simp at hlt
    have hip : i < p8.length := by have := congrArg List.length e8; simp at this; omega
    obtain ⟨tkw, hpk⟩ : ∃ tk, p8[i] = (w, tk) := by
      have : (p8.map (·.1))[i]? = some w := by rw [e8]; exact hgw
      have h' : p8[i].1 = w := by simpa [hip] using this
      exact ⟨p8[i].2, by rw [← h']⟩
    have hp8l : p8.length = ws.length := by have := congrArg List.length e8; simpa using this
    have hcall : ∀ hh, callI E (.fn 121 []) [.agg [.int .i64 m.ins, .int .i64 m.outs, .frz (m.rows.map rowD) .unk], .int .i64 f, .frz (w.map natD) tkw] hh = some (.int .i64 (aftM m f w), hh, {}) := fun hh => by
      refine call_pure (by decide) ?_ (spec121 hv w f (.inr ⟨by omega, by omega⟩) hwi.1 (by omega))
      have e1 : snap (E.pol.args 121) hh.blk snapDepth (.frz (w.map natD) tkw) = some (.frz (w.map natD) .unk, []) := by
        rw [show snapDepth = 7 + 2 from rfl, snap_word]
        cases tkw <;> rfl
      simp only [mapK, e1]
      rw [show snap (E.pol.args 121) hh.blk snapDepth (.agg [.int .i64 m.ins, .int .i64 m.outs, .frz (m.rows.map rowD) .unk]) = some (encM m, []) from snap_encM _ _ 4 m]
      rfl
    rw [cl98_1]
    refine .assoc (.then xr98_7 (by simp [o98_7, builtinD, lenD, pD, argA, v8, h10]; rfl) ?_)
    refine .head (by simp [opd, upd]; rfl) (fun _ => ?_) (fun hf => by simp [hlt] at hf)
    refine .seq (.block (.then xr98_9 (by simp [o98_9, builtinD, lenD, pD, argA, h1, h2, v8, h10, hb, encM, g8, hlt, hip, hp8l, hpk, wD, hcall]; rfl) ?_))
    have tail : ∀ (A2 : Nat → D) (h2 : H) (Q : Po), Lv m f N (visitM m f p w).l (visitM m f p w).is ws (visitM m f p w).more ⟨A2, h2⟩ → A2 10 = .int .i64 i → (∀ st, J98b m f N c0 p0 ws k st → Q.n st) → V E 98 84 r98_8 ⟨A2, h2⟩ Q := by
      intro A2 h2 Q lv2 g10 hq
      refine .reg xr98_8 (by simp [o98_8, builtinD, lenD, pD, argA, g10]; rfl) (hq _ ⟨by omega, ?_, ?_⟩)
      · rw [hk', htk]
        exact lv2.step (fun t ht => by simp [upd, show t ≠ 36 by omega, show t ≠ 37 by omega, show t ≠ 10 by omega]) (by simp)
      · simp [upd, hk', hwr]
    have skipP : (aftM m f w < 0 ∨ p.is.getD (aftM m f w).toNat false = true) → visitM m f p w = p := fun hc => by unfold visitM; simp only [hc, if_true]
    by_cases c1 : aftM m f w < 0
    · refine .assoc (.then xr98_10 (by simp [o98_10, builtinD, lenD, pD, argA, c1]; rfl) ?_)
      refine .seq (.cond (v := true) (by simp [opd, upd]) (fun _ => .exit ?_) (fun hf => by cases hf))
      show V E 98 84 r98_8 _ _
      refine tail _ _ _ ?_ (by simp [upd, h10]) (fun st hst => hst)
      rw [skipP (.inl c1)]
      exact lv.step (fun t ht => by simp [upd, show t ≠ 11 by omega, show ∀ c, 32 ≤ c → ¬ t = c from fun c h => by omega]) (by omega)
    · have c1' : 0 ≤ aftM m f w := by omega
      have htl : (aftM m f w).toNat < p.is.length := by rw [il]; rcases hst with e | e <;> omega
      have hti : aftM m f w < (m.rows.length : Int) := by rcases hst with e | e <;> omega
      have hgd : p.is.getD (aftM m f w).toNat false = p.is[(aftM m f w).toNat] := by simp [htl]
      cases c2 : p.is[(aftM m f w).toNat] with
      | true =>
        refine .assoc (.then xr98_10 (by simp [o98_10, builtinD, lenD, pD, argA, c1, c1', h7, hi10, htl, hti, c2]; rfl) ?_)
        refine .seq (.cond (v := true) (by simp [opd, upd]) (fun _ => .exit ?_) (fun hf => by cases hf))
        show V E 98 84 r98_8 _ _
        refine tail _ _ _ ?_ (by simp [upd, h10]) (fun st hst => hst)
        rw [skipP (.inr (by rw [hgd, c2]))]
        exact lv.step (fun t ht => by simp [upd, show t ≠ 11 by omega, show ∀ c, 32 ≤ c → ¬ t = c from fun c h => by omega]) (by omega)
      | false =>
        have hpll : pl.length = m.rows.length := by rw [← ll, ← p5f]; simp
        have htp : (aftM m f w).toNat < pl.length := by omega
        have hvis : visitM m f p w = ⟨p.l.set (aftM m f w).toNat w, p.is.set (aftM m f w).toNat true, p.more ++ childs w m.ins⟩ := by
          unfold visitM
          simp only
          rw [if_neg (by rw [hgd, c2]; simp; omega)]
        refine .assoc (.then xr98_10 (by simp [o98_10, builtinD, lenD, pD, argA, c1, c1', h7, hi10, htl, hti, c2]; rfl) ?_)
        refine .seq (.cond (v := false) (by simp [opd, upd]) (fun hf => by cases hf) (fun _ => .skip ?_))
        refine .then xr98_11 (by simp [o98_11, builtinD, lenD, pD, argA, h7, hi10, htl, hti, c1']; rfl) ?_
        have hb85 : ¬ b8 = 11 := by omega
        have hb86 : ¬ b8 = 6 := by omega
        refine .then xr98_12 (by simp [o98_12, builtinD, lenD, pD, argA, h6, v8, h10, g8, p5, hlt, hip, hp8l, hpk, hpll, htp, hti, c1', hb85, wD]; rfl) ?_
        refine .then xr98_13 (by simp [o98_13, builtinD, lenD, pD, argA]; rfl) ?_
        refine .block (loop98c (l := p.l.set (aftM m f w).toNat w) (is := p.is.set (aftM m f w).toNat true) (more := p.more) (N := N) (f := f) (ws := ws) (k := i) hv hgw (by omega) hml ?_ m.ins _ ⟨Nat.le_refl _, ?_, ?_, ?_⟩)
        · rintro ⟨A3, h3⟩ ⟨_, lv3, g10, g12⟩
          show V E 98 84 r98_8 _ _
          refine tail _ _ _ ?_ g10 (fun st hst => hst)
          rw [hvis]
          rw [Nat.sub_zero] at lv3
          exact lv3
        · rw [Nat.sub_self]
          refine ⟨?_, ?_, ?_, ?_, ?_, ⟨pl.set (aftM m f w).toNat (w, tkw), ?_, ?_⟩, ?_, by simpa using ll, by simpa using il, ?_, ?_, hN, by simp only; omega⟩
          · simp [upd, h1]
          · simp [upd, h2]
          · simp [upd, h6]
          · simp [upd, h7]
          · simpa [upd, upds] using hb
          · simp [upd, upds, List.map_set, wD]
          · rw [List.map_set, p5f]
          · simp [upd, upds, List.map_set]
          · refine .inr ⟨b8, p8, x8, by simp [upd, v8], ?_, e8, g8a, g8b⟩
            simp [upd, upds, hb85, hb86, g8]
          · rcases h9 with ⟨q1, q2⟩ | ⟨b9, p9, x9, q1, q2, q3, q4, q5⟩
            · refine .inl ⟨by simpa [childs] using q1, by simp [upd, q2]⟩
            · refine .inr ⟨b9, p9, x9, by simp [upd, q1, childs], ?_, by simpa [childs] using q3, q4, by simp only; omega⟩
              simp [upd, upds, show ¬ b9 = 11 by omega, show ¬ b9 = 6 by omega, q2]
        · simp [upd, h10]
        · simp [upd]
  · rintro ⟨A, h⟩ ⟨le, lv, h10⟩
    have lv0 := lv
    obtain ⟨h1, h2, h6, h7, hb, ⟨pl, p5, p5f⟩, hi10, ll, il, h8, h9, hN, hn⟩ := lv0
    simp only at h10 h8
    rw [cl98_1]
    rcases h8 with ⟨rfl, v8⟩ | ⟨b8, p8, x8, v8, g8, e8, g8a, g8b⟩
    · refine .assoc (.then xr98_7 (by simp [o98_7, builtinD, lenD, pD, argA, v8, h10]; rfl) ?_)
      refine .head (by simp [opd, upd]; rfl) (fun hf => by simp at hf) (fun _ => hQ _ ⟨by omega, ?_, ?_⟩)
      · exact lv.step (fun t ht => by simp [upd, show ∀ c, 32 ≤ c → ¬ t = c from fun c h => by omega]) (by simp)
      · simp [upd, h10]
    · refine .assoc (.then xr98_7 (by simp [o98_7, builtinD, lenD, pD, argA, v8, h10]; rfl) ?_)
      refine .head (by simp [opd, upd]; rfl) (fun hf => by simp at hf) (fun _ => hQ _ ⟨by omega, ?_, ?_⟩)
      · exact lv.step (fun t ht => by simp [upd, show ∀ c, 32 ≤ c → ¬ t = c from fun c h => by omega]) (by simp)
      · simp [upd, h10]
end Go.Eng.E3
namespace Go.Eng.E3
open Go Go.Eng Go.Proofs
set_option maxRecDepth 100000
attribute [local simp] execR runOps stepOp wantedD evalOp opd upd St.put Eff.apply upds looseOk FP.free FP.idle apart Eff.fp ofVal loadD storeD partD setPart indexAddrD isShift arith unD callOp mapO D.okc pickD buildable buildD placeD convD
set_option linter.unusedSimpArgs false
set_option maxHeartbeats 4000000
def lev (m : M) (f : Nat) : Nat → PS
  | 0 => ⟨List.replicate m.rows.length [], List.replicate m.rows.length false, [[]]⟩
  | j + 1 => foldM m f ⟨(lev m f j).l, (lev m f j).is, []⟩ (lev m f j).more
theorem fold_more {m : M} {f : Nat} : ∀ (ws : List (List Nat)) (p : PS) (u : List Nat), u ∈ (foldM m f p ws).more → u ∈ p.more ∨ ∃ w ∈ ws, ∃ i, i < m.ins ∧ u = w ++ [i]
  | [], _, _, h => .inl h
  | w :: ws, p, u, h => by
    rcases fold_more ws (visitM m f p w) u h with h1 | ⟨v, hv, i, hi, e⟩
    · unfold visitM at h1
      simp only at h1
      split at h1
      · exact .inl h1
      · rcases List.mem_append.1 h1 with h1 | h1
        · exact .inl h1
        · simp only [childs, List.mem_map, List.mem_range] at h1
          obtain ⟨i, hi, rfl⟩ := h1
          exact .inr ⟨w, List.mem_cons_self .., i, hi, rfl⟩
    · exact .inr ⟨v, List.mem_cons_of_mem _ hv, i, hi, e⟩
def meas (m : M) (p : PS) : Nat := 2 * (m.rows.length - p.is.count true) + (if p.more.isEmpty then 0 else 1)
structure LevOk (m : M) (f j : Nat) : Prop where
  ll : (lev m f j).l.length = m.rows.length
  il : (lev m f j).is.length = m.rows.length
  ws : ∀ w ∈ (lev m f j).more, (∀ i ∈ w, i < m.ins) ∧ w.length = j
  wl : (lev m f j).more.length ≤ 1024
theorem levOk {m : M} (hv : Valid m) {f : Nat} (hf : f < m.rows.length) : ∀ j, j < 2 ^ 30 → LevOk m f j
  | 0, _ => ⟨by simp [lev], by simp [lev], fun w hw => by simp [lev] at hw; subst hw; simp, by simp [lev]⟩
  | j + 1, hj => by
    have ih := levOk hv hf j (by omega)
    have ho := fold_ok (c0 := (lev m f j).is.count true) hv hf (lev m f j).more ⟨(lev m f j).l, (lev m f j).is, []⟩ (fun w hw => ⟨(ih.ws w hw).1, by rw [(ih.ws w hw).2]; omega⟩) ⟨ih.ll, ih.il, by simp⟩
    refine ⟨ho.ll, ho.il, fun w hw => ?_, ?_⟩
    · rcases fold_more _ _ w hw with h1 | ⟨v, hv', i, hi, rfl⟩
      · cases h1
      · obtain ⟨q1, q2⟩ := ih.ws v hv'
        refine ⟨fun a ha => ?_, by simp [q2]⟩
        rcases List.mem_append.1 ha with ha | ha
        · exact q1 a ha
        · simp at ha; subst ha; exact hi
    · have h1 := ho.cnt
      have h2 : (foldM m f ⟨(lev m f j).l, (lev m f j).is, []⟩ (lev m f j).more).is.count true ≤ m.rows.length := by rw [← ho.il]; exact List.count_le_length
      have h3 : m.ins * (foldM m f ⟨(lev m f j).l, (lev m f j).is, []⟩ (lev m f j).more).is.count true ≤ 16 * 64 := Nat.mul_le_mul hv.i2 (by have := hv.r2; omega)
      show (foldM m f ⟨(lev m f j).l, (lev m f j).is, []⟩ (lev m f j).more).more.length ≤ 1024
      omega
theorem meas_step {m : M} (hv : Valid m) {f : Nat} (hf : f < m.rows.length) {j : Nat} (hj : j < 2 ^ 30) (hne : (lev m f j).more ≠ []) : meas m (lev m f (j + 1)) < meas m (lev m f j) := by
  have ih := levOk hv hf j hj
  have ho := fold_ok (c0 := (lev m f j).is.count true) hv hf (lev m f j).more ⟨(lev m f j).l, (lev m f j).is, []⟩ (fun w hw => ⟨(ih.ws w hw).1, by rw [(ih.ws w hw).2]; omega⟩) ⟨ih.ll, ih.il, by simp⟩
  have h1 := ho.cnt
  have h2 : (foldM m f ⟨(lev m f j).l, (lev m f j).is, []⟩ (lev m f j).more).is.count true ≤ m.rows.length := by rw [← ho.il]; exact List.count_le_length
  have i1 := hv.i1
  have he : (lev m f j).more.isEmpty = false := by cases h : (lev m f j).more with | nil => exact absurd h hne | cons _ _ => rfl
  unfold meas
  rw [he]
  show 2 * (m.rows.length - (foldM m f ⟨(lev m f j).l, (lev m f j).is, []⟩ (lev m f j).more).is.count true) + (if (foldM m f ⟨(lev m f j).l, (lev m f j).is, []⟩ (lev m f j).more).more.isEmpty then 0 else 1) < _
  generalize foldM m f ⟨(lev m f j).l, (lev m f j).is, []⟩ (lev m f j).more = q at *
  cases hq : q.more with
  | nil =>
    rw [hq] at h1
    simp only [List.length_nil, Nat.zero_add] at h1
    have : (lev m f j).is.count true = q.is.count true := Nat.eq_of_mul_eq_mul_left (by omega) h1
    simp [this]
  | cons a r =>
    rw [hq] at h1
    simp only [List.length_cons] at h1
    have : (lev m f j).is.count true < q.is.count true := by
      rcases Nat.lt_or_ge ((lev m f j).is.count true) (q.is.count true) with h | h
      · exact h
      · have := Nat.mul_le_mul_left m.ins h; omega
    simp; omega
structure J98a (m : M) (f : Nat) (k : Nat) (st : St) : Prop where
  j : ∃ j, k = meas m (lev m f j) ∧ j + k ≤ 2 * m.rows.length + 1 ∧ st.A 1 = .int .i64 f ∧ st.A 2 = .ptr 0 0 0 ∧ st.A 6 = .sl 6 1 0 m.rows.length true ∧ st.A 7 = .sl 11 1 0 m.rows.length true ∧ st.h.blk 0 = .live 3 [encM m] ∧
    (∃ pl : List (List Nat × Tok), st.h.blk 6 = .live 1 (pl.map wD) ∧ pl.map (·.1) = (lev m f j).l) ∧ st.h.blk 11 = .live 1 ((lev m f j).is.map D.bool) ∧ WL st.h (st.A 8) (lev m f j).more 12 st.h.next ∧ 12 ≤ st.h.next
def wordD (w : List Nat) : D := .frz (w.map natD) .unk
theorem spec98 {m : M} (hv : Valid m) {f : Nat} (hf : f < m.rows.length) : ∃ j, (lev m f j).more = [] ∧ j < 2 ^ 30 ∧ bodyR 98 [encM m, .int .i64 f] = some (.tup [.frz ((lev m f j).l.map wordD) .exact, .frz ((lev m f j).is.map D.bool) .exact]) := by
  have r1 := hv.r1
  have r2 := hv.r2
  have hmk : (m.rows.length : Int) * 24 ≤ 140737488355328 := by omega
  have hmk1 : (m.rows.length : Int) ≤ 140737488355328 := by omega
  have key : V E 98 84 b98 ⟨argA [encM m, .int .i64 f], H.empty⟩ ⟨fun _ => False, fun s => ∃ j, (lev m f j).more = [] ∧ j < 2 ^ 30 ∧ s.A 4 = .sl 6 1 0 m.rows.length true ∧ s.A 5 = .sl 11 1 0 m.rows.length true ∧
      (∃ pl : List (List Nat × Tok), s.h.blk 6 = .live 1 (pl.map wD) ∧ pl.map (·.1) = (lev m f j).l) ∧ s.h.blk 11 = .live 1 ((lev m f j).is.map D.bool), fun _ _ => False, fun _ _ => False⟩ := by
    unfold b98
    refine .then xr98_0 (by simp [o98_0, builtinD, lenD, pD, argA, encM]; rfl) ?_
    refine .then xr98_1 (by simp [o98_1, builtinD, lenD, pD, argA, hmk, mu98b]; rfl) ?_
    refine .then xr98_2 (by simp [o98_2, builtinD, lenD, pD, argA, hmk1, mu98c]; rfl) ?_
    refine .then xr98_3 (by simp [o98_3, builtinD, lenD, pD, argA, mu98a, mu98b, mapK, snapDepth, kills, show List.range 0 = [] from rfl]; rfl) ?_
    refine .seq (.block (V_while (J98a m f) ?_ (meas m (lev m f 0)) _ ⟨0, rfl, ?_, ?_, ?_, ?_, ?_, ?_, ⟨List.replicate m.rows.length ([], .nil), ?_, ?_⟩, ?_, ?_, ?_⟩))
    · rintro k ⟨A, h⟩ ⟨j, rfl, hjk, h1, h2, h6, h7, hb, ⟨pl, p5, p5f⟩, hi10, h8, hn⟩
      simp only at h1 h2 h6 h7 hb p5 hi10 h8 hn
      have hj : j < 2 ^ 30 := by omega
      have lo := levOk hv hf j hj
      have hrl : (0 : Int) < m.rows.length := by omega
      have h8c := h8
      have fin : ∀ (A2 : Nat → D) (nx : Nat), (∀ t, t < 9 → A2 t = A t) → (lev m f j).more = [] → V E 98 84 (.seq r98_18 .ret) ⟨A2, ⟨nx, h.blk⟩⟩ ⟨fun _ => False, fun s => ∃ j, (lev m f j).more = [] ∧ j < 2 ^ 30 ∧ s.A 4 = .sl 6 1 0 m.rows.length true ∧ s.A 5 = .sl 11 1 0 m.rows.length true ∧
          (∃ pl : List (List Nat × Tok), s.h.blk 6 = .live 1 (pl.map wD) ∧ pl.map (·.1) = (lev m f j).l) ∧ s.h.blk 11 = .live 1 ((lev m f j).is.map D.bool), fun _ _ => False, fun _ _ => False⟩ := fun A2 nx he hm => by
        have g6 := (he 6 (by omega)).trans h6
        have g7 := (he 7 (by omega)).trans h7
        refine .then xr98_18 (by simp [o98_18, builtinD, lenD, pD, argA, g6, g7]; rfl) (.ret ⟨j, hm, hj, by simp [upd], by simp [upd], ⟨pl, by simpa [upds] using p5, p5f⟩, by simpa [upds] using hi10⟩)
      rw [cl98_0]
      by_cases hm : (lev m f j).more = []
      · rcases h8 with ⟨_, v8⟩ | ⟨b8, p8, x8, v8, g8, e8, g8a, g8b⟩
        · refine .assoc (.then xr98_4 (by simp [o98_4, builtinD, lenD, pD, argA, h2, v8, hb, encM, hrl]; rfl) ?_)
          refine .head (by simp [opd, upd]; rfl) (fun hf => by cases hf) (fun _ => ?_)
          exact fin _ _ (fun t ht => by simp [upd, show ∀ c, 23 ≤ c → ¬ t = c from fun c h => by omega]) hm
        · rw [hm, List.length_nil] at v8
          refine .assoc (.then xr98_4 (by simp [o98_4, builtinD, lenD, pD, argA, h2, v8, hb, encM, hrl]; rfl) ?_)
          refine .head (by simp [opd, upd]; rfl) (fun hf => by cases hf) (fun _ => ?_)
          exact fin _ _ (fun t ht => by simp [upd, show ∀ c, 23 ≤ c → ¬ t = c from fun c h => by omega]) hm
      · rcases h8 with ⟨q, _⟩ | ⟨b8, p8, x8, v8, g8, e8, g8a, g8b⟩
        · exact absurd q hm
        have hpos : 0 < (lev m f j).more.length := List.length_pos_iff.2 hm
        have hposI : (0 : Int) < (lev m f j).more.length := by omega
        have hpr : 0 < m.rows.length := r1
        refine .assoc (.then xr98_4 (by simp [o98_4, builtinD, lenD, pD, argA, h2, v8, hb, encM, hrl, hpos, hposI, hpr, hm]; rfl) ?_)
        refine .head (v := true) (by simp [opd, upd]) (fun _ => ?_) (fun hf => by cases hf)
        refine .block (.then xr98_5 (by simp [o98_5, builtinD, lenD, pD, argA]; rfl) ?_)
        refine .assoc (.then xr98_6 (by simp [o98_6, builtinD, lenD, pD, argA]; rfl) ?_)
        have hms := meas_step hv hf hj hm
        have lo1 := levOk hv hf (j + 1) (by omega)
        refine .seq (.block (loop98b (N := h.next) (c0 := (lev m f j).is.count true) (f := f) (p0 := ⟨(lev m f j).l, (lev m f j).is, []⟩) (ws := (lev m f j).more) hv hf (fun w hw => ⟨(lo.ws w hw).1, by rw [(lo.ws w hw).2]; omega⟩) (by have := lo.wl; omega) ⟨lo.ll, lo.il, by simp⟩ ?_ (lev m f j).more.length _ ⟨Nat.le_refl _, ?_, ?_⟩))
        · rintro ⟨A3, h3⟩ ⟨_, lv, g10⟩
          rw [Nat.sub_zero, List.take_length] at lv
          obtain ⟨k1, k2, k6, k7, kb, k5, k10, kl, ki, k8, k9, kN, kn⟩ := lv
          simp only at k1 k2 k6 k7 kb k5 k10 k8 k9 kn
          show V E 98 84 r98_17 _ _
          refine .reg xr98_17 (by simp [o98_17, builtinD, lenD, pD, argA]; rfl) ?_
          refine ⟨meas m (lev m f (j + 1)), hms, ⟨j + 1, rfl, by omega, ?_, ?_, ?_, ?_, ?_, ?_, ?_, ?_, ?_⟩⟩
          · simp [upd, k1]
          · simp [upd, k2]
          · simp [upd, k6]
          · simp [upd, k7]
          · simpa [upds] using kb
          · obtain ⟨pl', q1, q2⟩ := k5; exact ⟨pl', by simpa [upds] using q1, q2⟩
          · simpa [upds, lev] using k10
          · simp only [upd, upds]
            exact (k9.low (lo' := 12) (by omega)).frame (h' := ⟨h3.next + 2, h3.blk⟩) (fun _ _ _ => rfl) (by simp)
          · simp; omega
        · rw [Nat.sub_self, List.take_zero]
          refine ⟨?_, ?_, ?_, ?_, ?_, ⟨pl, ?_, p5f⟩, ?_, lo.ll, lo.il, ?_, .inl ⟨rfl, by simp [upd]⟩, hn, by simp; omega⟩
          · simp [upd, h1]
          · simp [upd, h2]
          · simp [upd, h6]
          · simp [upd, h7]
          · simpa [upds] using hb
          · simpa [upds] using p5
          · simpa [upds, foldM] using hi10
          · exact .inr ⟨b8, p8, x8, by simp [upd, v8], by simpa [upds] using g8, e8, g8a, g8b⟩
        · simp [upd]
    · simp [meas, lev]; omega
    · simp [upd, argA]
    · simp [upd]
    · simp [upd]
    · simp [upd]
    · simp [upd, upds, encM]
    · simp [upd, upds, wD]
    · simp [lev]
    · simp [upd, upds, lev]
    · refine .inr ⟨14, [([], .exact)], true, by simp [upd, lev], by simp [upd, upds, wD], by simp [lev], by omega, by simp⟩
    · simp
  obtain ⟨x, s', h1, h2⟩ := key
  cases x with
  | normal => exact h2.elim
  | exit i => exact h2.elim
  | goto l => exact h2.elim
  | ret =>
    obtain ⟨j, hm, hj, e4, e5, ⟨pl, p5, p5f⟩, hi10⟩ := h2
    have lo := levOk hv hf j hj
    refine ⟨j, hm, hj, ?_⟩
    refine bodyR_V (run98 _ _ (by simp)) ⟨_, _, h1, ⟨.tup [.sl 6 1 0 m.rows.length true, .sl 11 1 0 m.rows.length true], by simp [resultsD, mapO, resultD, e4, e5], ?_⟩⟩
    have hpll : pl.length = m.rows.length := by rw [← lo.ll, ← p5f]; simp
    have sn1 : snap true s'.h.blk 8 (.sl 6 1 0 m.rows.length true) = some (.frz ((lev m f j).l.map wordD) .exact, [6]) := by
      show (match (s'.h.blk 6).row with | some (e, xs) => (if e = 1 ∧ 0 + m.rows.length ≤ xs.length then (match mapK (snap false s'.h.blk 7) ((xs.drop 0).take m.rows.length) with | some (ys, k) => some (D.frz ys (if true && true then .exact else .unk), 6 :: k) | none => none) else none) | none => none) = _
      rw [p5]
      simp only [row_live, List.length_map, List.drop_zero]
      have hmk : mapK (snap false s'.h.blk 7) (pl.map wD) = some ((lev m f j).l.map wordD, []) := by
        rw [← p5f, List.map_map]
        have : ∀ q : List (List Nat × Tok), mapK (snap false s'.h.blk 7) (q.map wD) = some (q.map (wordD ∘ fun x => x.1), []) := by
          intro q
          induction q with
          | nil => rfl
          | cons a q ih =>
            obtain ⟨w, tk⟩ := a
            rw [List.map_cons, mapK, show snap false s'.h.blk 7 (wD (w, tk)) = some (.frz (w.map natD) (tk.fade false), []) from snap_word _ _ 5 w tk]
            simp only [ih]
            cases tk <;> rfl
        exact this pl
      rw [if_pos ⟨trivial, by omega⟩, List.take_of_length_le (by simp; omega), hmk]
      rfl
    have sn2 : snap true s'.h.blk 8 (.sl 11 1 0 m.rows.length true) = some (.frz ((lev m f j).is.map D.bool) .exact, [11]) := by
      show (match (s'.h.blk 11).row with | some (e, xs) => (if e = 1 ∧ 0 + m.rows.length ≤ xs.length then (match mapK (snap false s'.h.blk 7) ((xs.drop 0).take m.rows.length) with | some (ys, k) => some (D.frz ys (if true && true then .exact else .unk), 11 :: k) | none => none) else none) | none => none) = _
      rw [hi10]
      simp only [row_live, List.length_map, List.drop_zero]
      rw [if_pos ⟨trivial, by have := lo.il; omega⟩, List.take_of_length_le (by have := lo.il; simp; omega), mapK_map _ fun x _ => rfl]
      rfl
    show Option.map _ (match mapK (snap true s'.h.blk 8) [.sl 6 1 0 m.rows.length true, .sl 11 1 0 m.rows.length true] with | some (ys, k) => some (D.tup ys, k) | none => none) = _
    simp only [mapK, sn1, sn2]
    rfl
end Go.Eng.E3
namespace Go.Eng.E3
open Go Go.Eng Go.Proofs
set_option maxRecDepth 100000
attribute [local simp] execR runOps stepOp wantedD evalOp opd upd St.put Eff.apply upds looseOk FP.free FP.idle apart Eff.fp ofVal loadD storeD partD setPart indexAddrD isShift arith unD callOp mapO D.okc pickD buildable buildD placeD convD
set_option linter.unusedSimpArgs false
set_option maxHeartbeats 4000000
theorem app62L {mu : TypeId → Bool} {s : Nat} {blk : Nat → Blk} {xs ys : List Int} {tk tk' : Tok} {nx : Nat} (hmu : mu 62 = false) (ht : TokB blk tk 1 nx) (hl : xs.length + ys.length < 2 ^ 40) :
    builtinD E.T mu s blk .append [62, 62] [.frz (xs.map (D.int .i64)) tk, .frz (ys.map (D.int .i64)) tk'] = some { v := .frz ((xs ++ ys).map (D.int .i64)) (.own s 1), wr := tokWr tk s, rd := tokRd tk } := by
  have hall : ∀ z ∈ xs.map (D.int .i64) ++ ys.map (D.int .i64), z.cells.length = 1 := fun z hz => by
    rw [← List.map_append] at hz
    obtain ⟨y, _, rfl⟩ := List.mem_map.1 hz; rfl
  have hle : ((xs.map (D.int .i64)).length + (ys.map (D.int .i64)).length) * 8 * 2 ≤ maxAppend := by
    simp only [List.length_map, maxAppend]; omega
  have hsn : mapK (snap false blk snapDepth) (ys.map (D.int .i64)) = some (ys.map (D.int .i64), []) := mapK_map ys fun x _ => rfl
  rcases ht with rfl | ⟨o, rfl, h2, h3⟩
  · simp only [builtinD, ok_62, desc_62, if_true, appendD, elem_62, elemsD, hmu, Bool.false_eq_true, if_false, hsn, size_3, bytes_3, kills, List.map_nil, List.append_nil, List.nil_append]
    rw [if_pos ⟨hall, hle, by decide, by decide⟩]
    simp [tokWr, tokRd]
  · simp only [builtinD, ok_62, desc_62, if_true, appendD, elem_62, elemsD, hmu, Bool.false_eq_true, if_false, hsn, size_3, bytes_3, kills, List.map_nil, List.append_nil, List.nil_append]
    rw [if_pos ⟨hall, hle, by decide, by decide⟩]
    simp only [if_true, h2]
    simp [tokWr, tokRd]
theorem snap_words (kp : Bool) (blk : Nat → Blk) (n : Nat) (l : List (List Nat)) (tk : Tok) : snap kp blk (n + 3) (.frz (l.map wordD) tk) = some (.frz (l.map wordD) (tk.fade kp), []) := by
  show (match mapK (snap false blk (n + 2)) (l.map wordD) with | some (ys, k) => some (D.frz ys (tk.fade kp), k) | none => none) = _
  rw [mapK_map l fun x _ => by rw [wordD, snap_word]; rfl]
theorem snap_bools (kp : Bool) (blk : Nat → Blk) (n : Nat) (l : List Bool) (tk : Tok) : snap kp blk (n + 2) (.frz (l.map D.bool) tk) = some (.frz (l.map D.bool) (tk.fade kp), []) := by
  show (match mapK (snap false blk (n + 1)) (l.map D.bool) with | some (ys, k) => some (D.frz ys (tk.fade kp), k) | none => none) = _
  rw [mapK_map l fun x _ => rfl]
theorem spec71 {m : M} (hv : Valid m) : ∃ j, (lev m 0 j).more = [] ∧ j < 2 ^ 30 ∧ bodyR 71 [encM m] = some (.tup [.frz ((lev m 0 j).l.map wordD) .exact, .frz ((lev m 0 j).is.map D.bool) .exact]) := by
  obtain ⟨j, hm, hj, hb⟩ := spec98 hv hv.r1
  refine ⟨j, hm, hj, ?_⟩
  have call : ∀ h, callI E (.fn 98 []) [.agg [.int .i64 m.ins, .int .i64 m.outs, .frz (m.rows.map rowD) .unk], .int .i64 0] h = some (.tup [.frz ((lev m 0 j).l.map wordD) .exact, .frz ((lev m 0 j).is.map D.bool) .exact], h, {}) := fun h =>
    call_pure (by decide) (snaps2 (snap_encM _ _ 4 m) rfl) hb
  refine bodyR_V (run71 _ _ (by simp)) ?_
  unfold b71
  refine .then xr71_0 (by simp [o71_0, builtinD, lenD, pD, argA, encM]; rfl) ?_
  refine .then xr71_1 (by simp [o71_1, builtinD, lenD, pD, argA, call]; rfl) (.ret ⟨_, by simp [resultsD, mapO, resultD, upd]; rfl, ?_⟩)
  show Option.map _ (match mapK (snap true _ 8) [.frz ((lev m 0 j).l.map wordD) .exact, .frz ((lev m 0 j).is.map D.bool) .exact] with | some (ys, k) => some (D.tup ys, k) | none => none) = _
  simp only [mapK, show ∀ blk, snap true blk 8 (.frz ((lev m 0 j).l.map wordD) .exact) = some (.frz ((lev m 0 j).l.map wordD) .exact, []) from fun blk => snap_words true blk 5 _ _, show ∀ blk, snap true blk 8 (.frz ((lev m 0 j).is.map D.bool) .exact) = some (.frz ((lev m 0 j).is.map D.bool) .exact, []) from fun blk => snap_bools true blk 6 _ _]
  rfl
def wordOf (l : List (List Nat)) (s : Int) : List Nat := l.getD s.toNat []
def before (l : List (List Nat)) (s : Nat) (o : Int) : Bool := lessM (wordOf l o) (wordOf l s)
def insM (l : List (List Nat)) (out : List Int) (s : Nat) : List Int := out.takeWhile (before l s) ++ [(s : Int)] ++ out.dropWhile (before l s)
def ordStep (l : List (List Nat)) (is : List Bool) (out : List Int) (s : Nat) : List Int := if is.getD s false then insM l out s else out
def ordN (l : List (List Nat)) (is : List Bool) (s : Nat) : List Int := (List.range s).foldl (ordStep l is) []
theorem ordN_succ (l : List (List Nat)) (is : List Bool) (s : Nat) : ordN l is (s + 1) = ordStep l is (ordN l is s) s := by simp [ordN, List.range_succ]
theorem while_take {α : Type} {p : α → Bool} : ∀ (l : List α) (k : Nat), k ≤ l.length → (∀ (i : Nat) (h : i < l.length), i < k → p l[i] = true) → (∀ h : k < l.length, p l[k] = false) → l.takeWhile p = l.take k ∧ l.dropWhile p = l.drop k
  | [], k, _, _, _ => by simp
  | a :: l, 0, _, _, h2 => by have := h2 (by simp); simp only [List.getElem_cons_zero] at this; simp [this]
  | a :: l, k + 1, hk, h1, h2 => by
    have ha := h1 0 (by simp) (by omega)
    simp only [List.getElem_cons_zero] at ha
    have ih := while_take l k (by simpa using hk) (fun i hi hik => by have := h1 (i + 1) (by simpa using hi) (by omega); simpa using this) (fun h => by have := h2 (by simpa using h); simpa using this)
    simp [ha, ih.1, ih.2]
theorem mu78 : E.pol.mu 78 62 = false := by decide
structure J78 (l : List (List Nat)) (is : List Bool) (out : List Int) (tk : Tok) (s : Nat) (blk : Nat → Blk) (nx : Nat) (k : Nat) (st : St) : Prop where
  le : k ≤ out.length
  h3 : st.A 3 = .frz (l.map wordD) .exact
  h4 : st.A 4 = .frz (is.map D.bool) .exact
  h5 : st.A 5 = .frz (out.map (D.int .i64)) tk
  h6 : st.A 6 = .int .i64 s
  h7 : st.A 7 = .int .i64 ((out.length - k : Nat) : Int)
  hb : st.h.blk = blk
  hn : nx ≤ st.h.next
  pre : ∀ (i : Nat) (h : i < out.length), i < out.length - k → before l s out[i] = true
theorem loop78b {l : List (List Nat)} {is : List Bool} {out : List Int} {tk : Tok} {s : Nat} {blk : Nat → Blk} {nx : Nat} (_hl : l.length ≤ 64) (hs : s < l.length) (ho : ∀ o ∈ out, 0 ≤ o ∧ o < l.length) (hol : out.length ≤ 64) (hw : ∀ w ∈ l, w.length < 2 ^ 39) {Q : Po}
    (hQ : ∀ st k, J78 l is out tk s blk nx k st → (∀ h : out.length - k < out.length, before l s out[out.length - k] = false) → Q.x 2 st) (k : Nat) (st : St) (hI : J78 l is out tk s blk nx k st) : V E 78 61 (.loop l78_1) st Q := by
  refine V.count (J78 l is out tk s blk nx) ?_ ?_ k st hI
  · rintro k ⟨A, h⟩ ⟨le, h3, h4, h5, h6, h7, hb, hn, pre⟩
    have hlt : out.length - (k + 1) < out.length := by omega
    generalize hi : out.length - (k + 1) = i at *
    have hk' : out.length - k = i + 1 := by omega
    have hwr : IntKind.i64.wrap ((i : Int) + 1) = ((i + 1 : Nat) : Int) := by rw [wrap_id] <;> omega
    have hoi := ho _ (List.getElem_mem hlt)
    simp only at h3 h4 h5 h6 h7 hb hn
    have ho1 := hoi.1
    have ho2 := hoi.2
    have hot : out[i].toNat < l.length := by omega
    have hwl : l[out[i].toNat].length < 2 ^ 39 := hw _ (List.getElem_mem hot)
    have hbe : before l s out[i] = lessM l[out[i].toNat] l[s] := by simp [before, wordOf, hot, hs]
    have call : ∀ h, callI E (.fn 102 []) [.frz (l[out[i].toNat].map natD) .unk, .frz (l[s].map natD) .unk] h = some (.int .i64 (if lessM l[out[i].toNat] l[s] then 1 else 0), h, {}) := fun h => call102 (by omega) h
    have hab : ∀ c : Bool, (((if c = true then 1 else 0 : Int) == 1) : Bool) = c := fun c => by cases c <;> rfl
    have hab2 : ∀ c : Bool, decide ((if c = true then 1 else 0 : Int) = 1) = c := fun c => by cases c <;> rfl
    have hltI : (i : Int) < out.length := by omega
    rw [cl78_1]
    refine .assoc (.then xr78_8 (by simp [o78_8, builtinD, lenD, pD, argA, h3, h5, h6, h7, hlt, hltI, ho1, ho2, hot, hs, wordD, call, hab, hab2]; rfl) ?_)
    refine .head (v := lessM l[out[i].toNat] l[s]) (by simp [opd, upd]) (fun q => ?_) (fun q => hQ _ (k + 1) ⟨le, ?_, ?_, ?_, ?_, ?_, ?_, ?_, ?_⟩ ?_)
    · refine .block (.reg xr78_9 (by simp [o78_9, builtinD, lenD, pD, argA, h7]; rfl) ⟨by omega, ?_, ?_, ?_, ?_, ?_, ?_, ?_, ?_⟩)
      · simp [upd, h3]
      · simp [upd, h4]
      · simp [upd, h5]
      · simp [upd, h6]
      · simp [upd, hk', hwr]
      · simp [upds, hb]
      · simp; omega
      · intro a ha hak
        rcases Nat.lt_or_ge a i with q1 | q1
        · exact pre a ha (by omega)
        · have : a = i := by omega
          subst this; rw [hbe]; exact q
    · simp [upd, h3]
    · simp [upd, h4]
    · simp [upd, h5]
    · simp [upd, h6]
    · simp [upd, hi, h7]
    · simp [upds, hb]
    · simp; omega
    · rw [hi]; exact pre
    · rw [hi]; intro _; rw [hbe]; exact q
  · rintro ⟨A, h⟩ ⟨le, h3, h4, h5, h6, h7, hb, hn, pre⟩
    simp only at h3 h4 h5 h6 h7 hb hn
    rw [cl78_1]
    refine .assoc (.then xr78_8 (by simp [o78_8, builtinD, lenD, pD, argA, h5, h7]; rfl) ?_)
    refine .head (v := false) (by simp [opd, upd]) (fun q => by cases q) (fun _ => hQ _ 0 ⟨by omega, ?_, ?_, ?_, ?_, ?_, ?_, ?_, pre⟩ (fun h => by omega))
    · simp [upd, h3]
    · simp [upd, h4]
    · simp [upd, h5]
    · simp [upd, h6]
    · simp [upd, h7]
    · simp [upds, hb]
    · simp; omega
end Go.Eng.E3
namespace Go.Eng.E3
open Go Go.Eng Go.Proofs
set_option maxRecDepth 100000
attribute [local simp] execR runOps stepOp wantedD evalOp opd upd St.put Eff.apply upds looseOk FP.free FP.idle apart Eff.fp ofVal loadD storeD partD setPart indexAddrD isShift arith unD callOp mapO D.okc pickD buildable buildD placeD convD
set_option linter.unusedSimpArgs false
set_option maxHeartbeats 4000000
theorem ins_mem {l : List (List Nat)} {out : List Int} {s : Nat} {o : Int} : o ∈ insM l out s ↔ o ∈ out ∨ o = s := by
  have h : ∀ x, x ∈ out ↔ x ∈ out.takeWhile (before l s) ∨ x ∈ out.dropWhile (before l s) := fun x => by
    conv => lhs; rw [← List.takeWhile_append_dropWhile (p := before l s) (l := out)]
    exact List.mem_append
  rw [h o]
  simp only [insM, List.mem_append, List.mem_singleton]
  constructor
  · rintro ((h | h) | h)
    · exact .inl (.inl h)
    · exact .inr h
    · exact .inl (.inr h)
  · rintro ((h | h) | h)
    · exact .inl (.inl h)
    · exact .inr h
    · exact .inl (.inr h)
theorem ins_len {l : List (List Nat)} {out : List Int} {s : Nat} : (insM l out s).length = out.length + 1 := by
  have := congrArg List.length (List.takeWhile_append_dropWhile (p := before l s) (l := out))
  simp only [List.length_append] at this
  simp only [insM, List.length_append, List.length_singleton]
  omega
theorem ord_ok (l : List (List Nat)) (is : List Bool) : ∀ s, (∀ o ∈ ordN l is s, 0 ≤ o ∧ o < s) ∧ (ordN l is s).length ≤ s
  | 0 => ⟨fun o ho => by simp [ordN] at ho, by simp [ordN]⟩
  | s + 1 => by
    obtain ⟨h1, h2⟩ := ord_ok l is s
    rw [ordN_succ, ordStep]
    split
    · refine ⟨fun o ho => ?_, by rw [ins_len]; omega⟩
      rcases ins_mem.1 ho with ho | rfl
      · have := h1 o ho; omega
      · omega
    · exact ⟨fun o ho => by have := h1 o ho; omega, by omega⟩
structure I78 (l : List (List Nat)) (is : List Bool) (k : Nat) (st : St) : Prop where
  le : k ≤ l.length
  h3 : st.A 3 = .frz (l.map wordD) .exact
  h4 : st.A 4 = .frz (is.map D.bool) .exact
  h5 : ∃ tk, st.A 5 = .frz ((ordN l is (l.length - k)).map (D.int .i64)) tk ∧ TokB st.h.blk tk 1 st.h.next ∧ (tk = .nil ↔ ordN l is (l.length - k) = [])
  h6 : st.A 6 = .int .i64 ((l.length - k : Nat) : Int)
theorem spec78 {m : M} (hv : Valid m) : ∃ j, (lev m 0 j).more = [] ∧ j < 2 ^ 30 ∧ bodyR 78 [encM m] = some (.frz ((ordN (lev m 0 j).l (lev m 0 j).is m.rows.length).map (D.int .i64)) (tkA (ordN (lev m 0 j).l (lev m 0 j).is m.rows.length))) := by
  obtain ⟨j, hm, hj, hb71⟩ := spec71 hv
  refine ⟨j, hm, hj, ?_⟩
  have lo := levOk hv hv.r1 j hj
  have hlw : ∀ w ∈ (lev m 0 j).l, w.length < 2 ^ 39 := by
    have key : ∀ i, i ≤ j → ∀ w ∈ (lev m 0 i).l, w.length ≤ i := by
      intro i
      induction i with
      | zero => intro _ w hw; simp [lev] at hw; simp [hw.2]
      | succ i ih =>
        intro hi w hw
        have lo' := levOk hv hv.r1 i (by omega)
        have : ∀ (ws : List (List Nat)) (p : PS), (∀ u ∈ ws, u.length = i) → (∀ u ∈ p.l, u.length ≤ i) → ∀ u ∈ (foldM m 0 p ws).l, u.length ≤ i := by
          intro ws
          induction ws with
          | nil => intro p _ hp; exact hp
          | cons v ws ihw =>
            intro p hws hp
            refine ihw (visitM m 0 p v) (fun u hu => hws u (List.mem_cons_of_mem _ hu)) (fun u hu => ?_)
            unfold visitM at hu
            simp only at hu
            split at hu
            · exact hp u hu
            · rcases List.mem_or_eq_of_mem_set hu with hu | rfl
              · exact hp u hu
              · exact Nat.le_of_eq (hws _ (List.mem_cons_self ..))
        have := this (lev m 0 i).more ⟨(lev m 0 i).l, (lev m 0 i).is, []⟩ (fun u hu => (lo'.ws u hu).2) (ih (by omega)) w hw
        omega
    intro w hw
    have := key j (Nat.le_refl _) w hw
    omega
  have r2 := hv.r2
  have hll := lo.ll
  have hil := lo.il
  have call : ∀ h, callI E (.fn 71 []) [.agg [.int .i64 m.ins, .int .i64 m.outs, .frz (m.rows.map rowD) .unk]] h = some (.tup [.frz ((lev m 0 j).l.map wordD) .exact, .frz ((lev m 0 j).is.map D.bool) .exact], h, {}) := fun h =>
    call_pure (by decide) (snaps1 (snap_encM _ _ 4 m)) hb71
  generalize (lev m 0 j).l = l at *
  generalize (lev m 0 j).is = is at *
  have r2' : l.length ≤ 64 := by omega
  have hil' : is.length = l.length := by omega
  rw [← hll]
  refine bodyR_V (run78 _ _ (by simp)) ?_
  unfold b78
  refine .then xr78_0 (by simp [o78_0, builtinD, lenD, pD, argA, encM]; rfl) ?_
  refine .then xr78_1 (by simp [o78_1, builtinD, lenD, pD, argA, call]; rfl) ?_
  refine .then xr78_2 (by simp [o78_2, builtinD, lenD, pD, argA]; rfl) ?_
  refine .assoc (.then xr78_3 (by simp [o78_3, builtinD, lenD, pD, argA]; rfl) ?_)
  refine .seq (.block (V.count (I78 l is) ?_ ?_ l.length _ ⟨Nat.le_refl _, by simp [upd], by simp [upd], ⟨.nil, by simp [upd, ordN], .inl rfl, by simp [ordN]⟩, by simp [upd]⟩))
  · rintro k ⟨A, h⟩ ⟨le, h3, h4, ⟨tk, h5, ht, htn⟩, h6⟩
    have hlt : l.length - (k + 1) < l.length := by omega
    generalize hi : l.length - (k + 1) = s at *
    have hk' : l.length - k = s + 1 := by omega
    have hwr : IntKind.i64.wrap ((s : Int) + 1) = ((s + 1 : Nat) : Int) := by rw [wrap_id] <;> omega
    have hok := ord_ok l is s
    have hst := ordN_succ l is s
    generalize ordN l is s = out at *
    have hsi : s < is.length := by omega
    have hgd : is.getD s false = is[s] := by simp [hsi]
    simp only at h3 h4 h5 h6 ht
    rw [cl78_0]
    refine .assoc (.then xr78_4 (by simp [o78_4, builtinD, lenD, pD, argA, h3, h6]; rfl) ?_)
    refine .head (by simp [opd, upd]; rfl) (fun _ => ?_) (fun hf => by simp [hlt] at hf)
    have hltI : (s : Int) < is.length := by omega
    cases c : is[s] with
    | false =>
      refine .seq (.block (.assoc (.then xr78_6 (by simp [o78_6, builtinD, lenD, pD, argA, h4, h6, hsi, hltI, c]; rfl) ?_)))
      refine .seq (.cond (v := true) (by simp [opd, upd]) (fun _ => .exit ?_) (fun q => by cases q))
      show V E 78 61 r78_5 _ _
      have hns : ordStep l is out s = out := by simp only [ordStep, hgd, c]; rfl
      refine .reg xr78_5 (by simp [o78_5, builtinD, lenD, pD, argA, h6]; rfl) ⟨by omega, ?_, ?_, ⟨tk, ?_, ?_, ?_⟩, ?_⟩
      · simp [upd, h3]
      · simp [upd, h4]
      · rw [hk', hst, hns]; simp [upd, h5]
      · exact ht.mono (by simp; omega) (fun b _ hb => by simpa [upds] using hb)
      · rw [hk', hst, hns]; exact htn
      · simp [upd, hk', hwr]
    | true =>
      refine .seq (.block (.assoc (.then xr78_6 (by simp [o78_6, builtinD, lenD, pD, argA, h4, h6, hsi, hltI, c]; rfl) ?_)))
      refine .seq (.cond (v := false) (by simp [opd, upd]) (fun q => by cases q) (fun _ => .skip ?_))
      refine .then xr78_7 (by simp [o78_7, builtinD, lenD, pD, argA]; rfl) ?_
      refine .seq (.block (loop78b (l := l) (is := is) (out := out) (tk := tk) (s := s) (blk := h.blk) (nx := h.next) (by omega) hlt (fun o ho => by have := hok.1 o ho; omega) (by have := hok.2; omega) hlw ?_ out.length _ ⟨Nat.le_refl _, by simp [upd, h3], by simp [upd, h4], by simp [upd, h5], by simp [upd, h6], by simp [upd], by simp [upds], by simp; omega, fun i h hi => by omega⟩))
      rintro ⟨A1, h1⟩ k1 ⟨le1, g3, g4, g5, g6, g7, gb, gn, pre⟩ stop
      simp only at g3 g4 g5 g6 g7 gb gn
      have hk1 : out.length - k1 ≤ out.length := by omega
      generalize out.length - k1 = q at *
      obtain ⟨hq1, hq2⟩ := while_take (p := before l s) out q hk1 pre stop
      have hins : insM l out s = out.take q ++ [(s : Int)] ++ out.drop q := by rw [insM, hq1, hq2]
      have hns : ordStep l is out s = insM l out s := by simp only [ordStep, hgd, c, if_true]
      have htk1 : TokB h1.blk tk 1 h1.next := by rw [gb]; exact ht.mono gn (fun b _ hb => hb)
      have hcells : ∀ x ∈ out.map (D.int .i64), x.cells.length = 1 := fun x hx => by obtain ⟨y, _, rfl⟩ := List.mem_map.1 hx; rfl
      have hqi : (0 : Int) ≤ (q : Int) := by omega
      have hqi2 : (q : Int) ≤ out.length := by omega
      show V E 78 61 _ _ _
      refine .then xr78_10 (by simp [o78_10, builtinD, lenD, pD, argA]; rfl) ?_
      have hol : out.length ≤ 64 := by have := hok.2; omega
      obtain ⟨u, hu⟩ : ∃ u, out.take q = u := ⟨_, rfl⟩
      obtain ⟨v, hv'⟩ : ∃ v, out.drop q = v := ⟨_, rfl⟩
      have hul : u.length ≤ 64 := by rw [← hu]; simp; omega
      have hvl : v.length ≤ 64 := by rw [← hv']; simp; omega
      have hs1 : List.take q (List.map (D.int .i64) out) = u.map (D.int .i64) := by rw [← List.map_take, hu]
      have hs2 : List.drop q (List.map (D.int .i64) out) = v.map (D.int .i64) := by rw [← List.map_drop, hv']
      have hs3 : List.take out.length (List.map (D.int .i64) out) = out.map (D.int .i64) := List.take_of_length_le (by simp)
      rw [hu, hv'] at hins
      have ha1 : ∀ s blk tk', builtinD E.T (E.pol.mu 78) s blk .append [62, 62] [.frz [] .nil, .frz (u.map (D.int .i64)) tk'] = some { v := .frz (u.map (D.int .i64)) (.own s 1), wr := [(s, .tok)] } := fun s blk tk' => by
        have := app62L (mu := E.pol.mu 78) (s := s) (blk := blk) (xs := []) (ys := u) (tk := .nil) (tk' := tk') (nx := 0) mu78 (.inl rfl) (by simp; omega)
        simpa [tokWr, tokRd] using this
      have ha2 : ∀ s' o (blk : Nat → Blk), blk o = .tok → builtinD E.T (E.pol.mu 78) s' blk .append [62, 62] [.frz (u.map (D.int .i64)) (.own o 1), .frz [.int .i64 s] .exact] = some { v := .frz (u.map (D.int .i64) ++ [.int .i64 s]) (.own s' 1), wr := [(o, .dead), (s', .tok)], rd := [o] } := fun s' o blk ho => by
        have := app62L (mu := E.pol.mu 78) (s := s') (blk := blk) (xs := u) (ys := [(s : Int)]) (tk := .own o 1) (tk' := .exact) (nx := o + 1) mu78 (.inr ⟨o, rfl, ho, by omega⟩) (by simp; omega)
        simpa [tokWr, tokRd] using this
      have ha3 : ∀ s' o (blk : Nat → Blk) tk', blk o = .tok → builtinD E.T (E.pol.mu 78) s' blk .append [62, 62] [.frz (u.map (D.int .i64) ++ [.int .i64 s]) (.own o 1), .frz (v.map (D.int .i64)) tk'] = some { v := .frz (u.map (D.int .i64) ++ .int .i64 s :: v.map (D.int .i64)) (.own s' 1), wr := [(o, .dead), (s', .tok)], rd := [o] } := fun s' o blk tk' ho => by
        have := app62L (mu := E.pol.mu 78) (s := s') (blk := blk) (xs := u ++ [(s : Int)]) (ys := v) (tk := .own o 1) (tk' := tk') (nx := o + 1) mu78 (.inr ⟨o, rfl, ho, by omega⟩) (by simp; omega)
        simpa [tokWr, tokRd] using this
      have hb1 : ∀ x y : Nat, (h1.next + 1 + x = h1.next + 1 + y) = (x = y) := fun x y => by simp
      refine .then xr78_11 (by simp [o78_11, pD, argA, g5, g7, sliceD, boundsD, optInt, hqi, hqi2, hk1, hs1, hcells, ha1]; rfl) ?_
      refine .then xr78_12 (by simp [o78_12, pD, argA, g6, ha2, mu78, mapK, snapDepth, snap_int, kills]; rfl) ?_
      refine .reg xr78_13 (by simp [o78_13, pD, argA, g5, g7, sliceD, boundsD, optInt, hqi, hqi2, hk1, hs2, hs3, hcells, ha3]; rfl) ?_
      show V E 78 61 r78_5 _ _
      refine .reg xr78_5 (by simp [o78_5, builtinD, lenD, pD, argA, g6]; rfl) ⟨by omega, ?_, ?_, ⟨.own (h1.next + 1 + 6 + 5 + 4) 1, ?_, ?_, ?_⟩, ?_⟩
      · simp [upd, g3]
      · simp [upd, g4]
      · rw [hk', hst, hns, hins]; simp [upd]
      · exact .inr ⟨_, rfl, by simp [upd, upds], by simp <;> omega⟩
      · rw [hk', hst, hns, hins]; simp
      · simp [upd, hk', hwr]
  · rintro ⟨A, h⟩ ⟨le, h3, h4, ⟨tk, h5, ht, htn⟩, h6⟩
    simp only at h3 h4 h5 h6 ht
    rw [cl78_0]
    refine .assoc (.then xr78_4 (by simp [o78_4, builtinD, lenD, pD, argA, h3, h6]; rfl) ?_)
    refine .head (by simp [opd, upd]; rfl) (fun hf => by simp at hf) (fun _ => ?_)
    refine .then xr78_14 (by simp [o78_14, builtinD, lenD, pD, argA, h5]; rfl) (.ret ⟨_, by simp [resultsD, mapO, resultD, upd]; rfl, ?_⟩)
    rw [show snapDepth = 7 + 2 from rfl, snap_ints]
    have : Tok.fade true tk = tkA (ordN l is l.length) := by
      rw [Nat.sub_zero] at htn
      rcases ht with rfl | ⟨o, rfl, _, _⟩
      · rw [htn.1 rfl]; rfl
      · cases hq : ordN l is l.length with
        | nil => have := htn.2 hq; cases this
        | cons _ _ => rfl
    simp [this]
end Go.Eng.E3
namespace Go.Eng.E3
open Go Go.Eng Go.Proofs
set_option maxRecDepth 100000
attribute [local simp] execR runOps stepOp wantedD evalOp opd upd St.put Eff.apply upds looseOk FP.free FP.idle apart Eff.fp ofVal loadD storeD partD setPart indexAddrD isShift arith unD callOp mapO D.okc pickD buildable buildD placeD convD
set_option linter.unusedSimpArgs false
set_option maxHeartbeats 2000000
def relaxM (m : M) (s : Nat) (o : List Bool) (i : Nat) : List Bool := if o.getD s false && decide (0 ≤ (edge m s i).1) then o.set (edge m s i).1.toNat true else o
def rowRel (m : M) (s : Nat) (o : List Bool) (i : Nat) : List Bool := (List.range i).foldl (relaxM m s) o
def roundRel (m : M) (o : List Bool) (s : Nat) : List Bool := (List.range s).foldl (fun o s => rowRel m s o m.ins) o
def reachN (m : M) (o : List Bool) (k : Nat) : List Bool := (List.range k).foldl (fun o _ => roundRel m o m.rows.length) o
def reachM (m : M) (from_ : Nat) : List Bool := reachN m ((List.replicate m.rows.length false).set from_ true) m.rows.length
theorem rowRel_succ (m : M) (s : Nat) (o : List Bool) (i : Nat) : rowRel m s o (i + 1) = relaxM m s (rowRel m s o i) i := by simp [rowRel, List.range_succ]
theorem roundRel_succ (m : M) (o : List Bool) (s : Nat) : roundRel m o (s + 1) = rowRel m s (roundRel m o s) m.ins := by simp [roundRel, List.range_succ]
theorem reachN_succ (m : M) (o : List Bool) (k : Nat) : reachN m o (k + 1) = roundRel m (reachN m o k) m.rows.length := by simp [reachN, List.range_succ]
structure Fx (m : M) (o : List Bool) (st : St) : Prop where
  h2 : st.A 2 = .ptr 0 0 0
  h5 : st.A 5 = .sl 5 1 0 m.rows.length true
  hb : st.h.blk 0 = .live 3 [encM m]
  hx : st.h.blk 5 = .live 1 (o.map D.bool)
  hn : 6 ≤ st.h.next
  ol : o.length = m.rows.length
theorem Fx.step {m : M} {o : List Bool} {A A' : Nat → D} {h : H} {nx : Nat} (f : Fx m o ⟨A, h⟩) (e : ∀ t, t < 6 → A' t = A t) (hn : h.next ≤ nx) : Fx m o ⟨A', ⟨nx, h.blk⟩⟩ := by
  obtain ⟨q1, q2, q3, q4, q5, q6⟩ := f
  simp only at q1 q2 q3 q4 q5
  exact ⟨(e 2 (by omega)).trans q1, (e 5 (by omega)).trans q2, q3, q4, by simp only; omega, q6⟩
structure J79c (m : M) (s r : Nat) (o : List Bool) (k : Nat) (st : St) : Prop where
  le : k ≤ m.ins
  fx : Fx m (rowRel m s o (m.ins - k)) st
  h6 : st.A 6 = .int .i64 r
  h7 : st.A 7 = .int .i64 s
  h8 : st.A 8 = .int .i64 ((m.ins - k : Nat) : Int)
theorem loop79c {m : M} (hv : Valid m) {s r : Nat} {o : List Bool} (hs : s < m.rows.length) {Q : Po} (hQ : ∀ st, J79c m s r o 0 st → Q.x 4 st) (k : Nat) (st : St) (hI : J79c m s r o k st) : V E 79 58 (.loop l79_2) st Q := by
  have i2 := hv.i2
  refine V.count (J79c m s r o) ?_ ?_ k st hI
  · rintro k ⟨A, h⟩ ⟨le, fx, h6, h7, h8⟩
    have hlt : m.ins - (k + 1) < m.ins := by omega
    generalize hi : m.ins - (k + 1) = i at *
    have hk' : m.ins - k = i + 1 := by omega
    have hw : IntKind.i64.wrap ((i : Int) + 1) = ((i + 1 : Nat) : Int) := by rw [wrap_id] <;> omega
    have hrs := rowRel_succ m s o i
    generalize rowRel m s o i = o1 at *
    have fx0 := fx
    obtain ⟨h2, h5, hb, hx, hn, ol⟩ := fx0
    have hls : i < m.rows[s].length := by rw [hv.len _ (List.getElem_mem hs)]; exact hlt
    have es : edge m s i = m.rows[s][i] := by simp [edge, hs, hls]
    have hok := hv.ok _ (List.getElem_mem hs) _ (List.getElem_mem hls)
    obtain ⟨x, hxe⟩ : ∃ x, m.rows[s][i] = x := ⟨_, rfl⟩
    rw [hxe] at es hok
    have hso : s < o1.length := by omega
    simp only at h2 h5 h6 h7 h8 hb hx hn
    rw [cl79_2]
    refine .assoc (.then xr79_10 (by simp [o79_10, builtinD, lenD, pD, argA, h2, h8, hb, encM]; rfl) ?_)
    refine .head (by simp [opd, upd]; rfl) (fun _ => ?_) (fun hf => by simp [hlt] at hf)
    have hgd : o1.getD s false = o1[s] := by simp [hso]
    refine .seq (.block (.then xr79_12 (by simp [o79_12, builtinD, lenD, pD, argA, h2, h7, h8, hb, encM, hs, hls, rowD, hxe]; rfl) ?_))
    have tail : ∀ (A2 : Nat → D) (nx : Nat) (o2 : List Bool) (blk2 : Nat → Blk) (Q : Po), h.next ≤ nx → (∀ t, t < 9 → A2 t = A t) → relaxM m s o1 i = o2 → o2.length = m.rows.length → blk2 0 = .live 3 [encM m] → blk2 5 = .live 1 (o2.map D.bool) → (∀ st, J79c m s r o k st → Q.n st) → V E 79 58 r79_11 ⟨A2, ⟨nx, blk2⟩⟩ Q := by
      intro A2 nx o2 blk2 Q hnx he hr2 hl2 hb0 hb5 hq
      have e8 := (he 8 (by omega)).trans h8
      refine .reg xr79_11 (by simp [o79_11, builtinD, lenD, pD, argA, e8]; rfl) (hq _ ⟨by omega, ⟨?_, ?_, ?_, ?_, ?_, ?_⟩, ?_, ?_, ?_⟩)
      · simp [upd, he, h2]
      · simp [upd, he, h5]
      · simpa [upds] using hb0
      · rw [hk', hrs, hr2]; simpa [upds] using hb5
      · simp; omega
      · rw [hk', hrs, hr2]; exact hl2
      · simp [upd, he, h6]
      · simp [upd, he, h7]
      · simp [upd, hk', hw]
    cases c1 : o1[s] with
    | false =>
      refine .then xr79_13 (by simp [o79_13, builtinD, lenD, pD, argA, h5, h7, hx, hso, hs, c1, ol]; rfl) ?_
      refine .cond (v := false) (by simp [opd, upd]) (fun hf => by cases hf) (fun _ => .skip ?_)
      refine tail _ _ o1 _ _ (by omega) (fun t ht => ?_) (by simp [relaxM, hso, c1]) ol ?_ ?_ (fun st hst => hst)
      · simp [upd, show t ≠ 9 by omega, show ∀ c, 31 ≤ c → ¬ t = c from fun c h => by omega]
      · simpa [upds] using hb
      · simpa [upds] using hx
    | true =>
      by_cases c2 : 0 ≤ x.1
      · have hxl : x.1.toNat < o1.length := by rcases hok with rfl | hok; · simp at c2
                                               omega
        have hxi : x.1 < (m.rows.length : Int) := by omega
        refine .then xr79_13 (by simp [o79_13, builtinD, lenD, pD, argA, h5, h7, hx, hso, hs, c1, c2, ol]; rfl) ?_
        refine .cond (v := true) (by simp [opd, upd]) (fun _ => ?_) (fun hf => by cases hf)
        refine .reg xr79_14 (by simp [o79_14, builtinD, lenD, pD, argA, h5, hx, c2, hxl, hxi, ol]; rfl) ?_
        refine tail _ _ (o1.set x.1.toNat true) _ _ (by omega) (fun t ht => ?_) (by simp [relaxM, hso, c1, es, c2]) (by simpa using ol) ?_ ?_ (fun st hst => hst)
        · simp [upd, show t ≠ 9 by omega, show ∀ c, 31 ≤ c → ¬ t = c from fun c h => by omega]
        · simpa [upds, upd] using hb
        · simp [upds, upd, List.map_set]
      · refine .then xr79_13 (by simp [o79_13, builtinD, lenD, pD, argA, h5, h7, hx, hso, hs, c1, c2, ol]; rfl) ?_
        refine .cond (v := false) (by simp [opd, upd]) (fun hf => by cases hf) (fun _ => .skip ?_)
        refine tail _ _ o1 _ _ (by omega) (fun t ht => ?_) (by simp [relaxM, hso, c1, es, c2]) ol ?_ ?_ (fun st hst => hst)
        · simp [upd, show t ≠ 9 by omega, show ∀ c, 31 ≤ c → ¬ t = c from fun c h => by omega]
        · simpa [upds] using hb
        · simpa [upds] using hx
  · rintro ⟨A, h⟩ ⟨le, fx, h6, h7, h8⟩
    have fx0 := fx
    obtain ⟨h2, h5, hb, hx, hn, ol⟩ := fx0
    simp only at h2 h5 h6 h7 h8 hb hx hn
    rw [cl79_2]
    refine .assoc (.then xr79_10 (by simp [o79_10, builtinD, lenD, pD, argA, h2, h8, hb, encM]; rfl) ?_)
    refine .head (by simp [opd, upd]; rfl) (fun hf => by simp at hf) (fun _ => hQ _ ⟨by omega, ?_, ?_, ?_, ?_⟩)
    · exact fx.step (fun t ht => by simp [upd, show ∀ c, 31 ≤ c → ¬ t = c from fun c h => by omega]) (by simp)
    · simp [upd, h6]
    · simp [upd, h7]
    · simp [upd, h8]
structure J79b (m : M) (r : Nat) (o : List Bool) (k : Nat) (st : St) : Prop where
  le : k ≤ m.rows.length
  fx : Fx m (roundRel m o (m.rows.length - k)) st
  h6 : st.A 6 = .int .i64 r
  h7 : st.A 7 = .int .i64 ((m.rows.length - k : Nat) : Int)
theorem loop79b {m : M} (hv : Valid m) {r : Nat} {o : List Bool} {Q : Po} (hQ : ∀ st, J79b m r o 0 st → Q.x 2 st) (k : Nat) (st : St) (hI : J79b m r o k st) : V E 79 58 (.loop l79_1) st Q := by
  have r2 := hv.r2
  refine V.count (J79b m r o) ?_ ?_ k st hI
  · rintro k ⟨A, h⟩ ⟨le, fx, h6, h7⟩
    have hlt : m.rows.length - (k + 1) < m.rows.length := by omega
    generalize hi : m.rows.length - (k + 1) = i at *
    have hk' : m.rows.length - k = i + 1 := by omega
    have hw : IntKind.i64.wrap ((i : Int) + 1) = ((i + 1 : Nat) : Int) := by rw [wrap_id] <;> omega
    have fx0 := fx
    obtain ⟨h2, h5, hb, hx, hn, ol⟩ := fx0
    simp only at h2 h5 h6 h7 hb hx hn
    rw [cl79_1]
    refine .assoc (.then xr79_7 (by simp [o79_7, builtinD, lenD, pD, argA, h2, h7, hb, encM]; rfl) ?_)
    refine .head (by simp [opd, upd]; rfl) (fun _ => ?_) (fun hf => by simp [hlt] at hf)
    refine .seq (.block (.then xr79_9 (by simp [o79_9, builtinD, lenD, pD, argA]; rfl) ?_))
    refine .block (loop79c (r := r) (o := roundRel m o i) hv hlt ?_ m.ins _ ⟨Nat.le_refl _, ?_, ?_, ?_, ?_⟩)
    · rintro ⟨A1, h1⟩ ⟨_, fx1, g6, g7, g8⟩
      simp only at g6 g7 g8
      show V E 79 58 r79_8 _ _
      refine .reg xr79_8 (by simp [o79_8, builtinD, lenD, pD, argA, g7]; rfl) ⟨by omega, ?_, ?_, ?_⟩
      · rw [hk', roundRel_succ]
        exact fx1.step (fun t ht => by simp [upd, show t ≠ 29 by omega, show t ≠ 30 by omega, show t ≠ 7 by omega]) (by simp)
      · simp [upd, g6]
      · simp [upd, hk', hw]
    · rw [Nat.sub_self]
      exact fx.step (fun t ht => by simp [upd, show t ≠ 8 by omega, show ∀ c, 24 ≤ c → ¬ t = c from fun c h => by omega]) (by omega)
    · simp [upd, h6]
    · simp [upd, h7]
    · simp [upd]
  · rintro ⟨A, h⟩ ⟨le, fx, h6, h7⟩
    have fx0 := fx
    obtain ⟨h2, h5, hb, hx, hn, ol⟩ := fx0
    simp only at h2 h5 h6 h7 hb hx hn
    rw [cl79_1]
    refine .assoc (.then xr79_7 (by simp [o79_7, builtinD, lenD, pD, argA, h2, h7, hb, encM]; rfl) ?_)
    refine .head (by simp [opd, upd]; rfl) (fun hf => by simp at hf) (fun _ => hQ _ ⟨by omega, ?_, ?_, ?_⟩)
    · exact fx.step (fun t ht => by simp [upd, show ∀ c, 24 ≤ c → ¬ t = c from fun c h => by omega]) (by simp)
    · simp [upd, h6]
    · simp [upd, h7]
structure J79a (m : M) (o : List Bool) (k : Nat) (st : St) : Prop where
  le : k ≤ m.rows.length
  fx : Fx m (reachN m o (m.rows.length - k)) st
  h6 : st.A 6 = .int .i64 ((m.rows.length - k : Nat) : Int)
theorem spec79 {m : M} (hv : Valid m) {f : Nat} (hf : f < m.rows.length) : bodyR 79 [encM m, .int .i64 f] = some (.frz ((reachM m f).map D.bool) .exact) := by
  have r1 := hv.r1
  have r2 := hv.r2
  have hmk : (m.rows.length : Int) ≤ 140737488355328 := by omega
  have hfi : (f : Int) < m.rows.length := by omega
  have mu79 : E.pol.mu 79 123 = true := by decide
  refine bodyR_V (run79 _ _ (by simp)) ?_
  unfold b79
  refine .then xr79_0 (by simp [o79_0, builtinD, lenD, pD, argA, encM]; rfl) ?_
  refine .then xr79_1 (by simp [o79_1, builtinD, lenD, pD, argA, hmk, mu79]; rfl) ?_
  refine .then xr79_2 (by simp [o79_2, builtinD, lenD, pD, argA, hf, hfi]; rfl) ?_
  refine .assoc (.then xr79_3 (by simp [o79_3, builtinD, lenD, pD, argA]; rfl) ?_)
  refine .seq (.block (V.count (J79a m ((List.replicate m.rows.length false).set f true)) ?_ ?_ m.rows.length _ ⟨Nat.le_refl _, ⟨?_, ?_, ?_, ?_, ?_, ?_⟩, ?_⟩))
  · rintro k ⟨A, h⟩ ⟨le, fx, h6⟩
    have hlt : m.rows.length - (k + 1) < m.rows.length := by omega
    generalize hi : m.rows.length - (k + 1) = i at *
    have hk' : m.rows.length - k = i + 1 := by omega
    have hw : IntKind.i64.wrap ((i : Int) + 1) = ((i + 1 : Nat) : Int) := by rw [wrap_id] <;> omega
    have fx0 := fx
    obtain ⟨h2, h5, hb, hx, hn, ol⟩ := fx0
    simp only at h2 h5 h6 hb hx hn
    rw [cl79_0]
    refine .assoc (.then xr79_4 (by simp [o79_4, builtinD, lenD, pD, argA, h2, h6, hb, encM]; rfl) ?_)
    refine .head (by simp [opd, upd]; rfl) (fun _ => ?_) (fun hf => by simp [hlt] at hf)
    refine .seq (.block (.then xr79_6 (by simp [o79_6, builtinD, lenD, pD, argA]; rfl) ?_))
    refine .block (loop79b (r := i) (o := reachN m ((List.replicate m.rows.length false).set f true) i) hv ?_ m.rows.length _ ⟨Nat.le_refl _, ?_, ?_, ?_⟩)
    · rintro ⟨A1, h1⟩ ⟨_, fx1, g6, g7⟩
      simp only at g6 g7
      show V E 79 58 r79_5 _ _
      refine .reg xr79_5 (by simp [o79_5, builtinD, lenD, pD, argA, g6]; rfl) ⟨by omega, ?_, ?_⟩
      · rw [hk', reachN_succ]
        exact fx1.step (fun t ht => by simp [upd, show t ≠ 22 by omega, show t ≠ 23 by omega, show t ≠ 6 by omega]) (by simp)
      · simp [upd, hk', hw]
    · rw [Nat.sub_self]
      exact fx.step (fun t ht => by simp [upd, show t ≠ 7 by omega, show ∀ c, 17 ≤ c → ¬ t = c from fun c h => by omega]) (by omega)
    · simp [upd, h6]
    · simp [upd]
  · rintro ⟨A, h⟩ ⟨le, fx, h6⟩
    have fx0 := fx
    obtain ⟨h2, h5, hb, hx, hn, ol⟩ := fx0
    simp only at h2 h5 h6 hb hx hn
    rw [cl79_0]
    refine .assoc (.then xr79_4 (by simp [o79_4, builtinD, lenD, pD, argA, h2, h6, hb, encM]; rfl) ?_)
    refine .head (by simp [opd, upd]; rfl) (fun hf => by simp at hf) (fun _ => ?_)
    refine .then xr79_15 (by simp [o79_15, builtinD, lenD, pD, argA, h5]; rfl) (.ret ⟨_, by simp [resultsD, mapO, resultD, upd]; rfl, ?_⟩)
    rw [Nat.sub_zero] at hx ol
    show Option.map _ (match (upds h.blk [] 5).row with | some (e, xs) => (if e = 1 ∧ 0 + m.rows.length ≤ xs.length then (match mapK (snap false _ 8) ((xs.drop 0).take m.rows.length) with | some (ys, k) => some (D.frz ys (if true && true then .exact else .unk), 5 :: k) | none => none) else none) | none => none) = _
    simp only [upds, hx, row_live, List.length_map, List.drop_zero]
    rw [if_pos ⟨trivial, by omega⟩, List.take_of_length_le (by simp; omega), mapK_map _ fun x _ => rfl]
    rfl
  · simp [upd]
  · simp [upd]
  · simp [upd, encM]
  · simp [upd, upds, reachN, List.map_set]
  · simp
  · simp [reachN]
  · simp [upd]
end Go.Eng.E3
namespace Go.Eng.E3
open Go Go.Eng Go.Proofs
set_option maxRecDepth 100000
attribute [local simp] execR runOps stepOp wantedD evalOp opd upd St.put Eff.apply upds looseOk FP.free FP.idle apart Eff.fp ofVal loadD storeD partD setPart indexAddrD isShift arith unD callOp mapO D.okc pickD buildable buildD placeD convD
set_option linter.unusedSimpArgs false
set_option maxHeartbeats 4000000
def clOf (p l : List Int) (k : Nat) : Int := p.getD (l.getD k 0).toNat 0
def thereM (p l : List Int) (k : Nat) : Nat → Bool
  | 0 => false
  | n + 1 => thereM p l k n || decide (clOf p l n = clOf p l k)
def firstN (p l : List Int) : Nat → List Int
  | 0 => []
  | k + 1 => if thereM p l k k then firstN p l k else firstN p l k ++ [l.getD k 0]
theorem firstN_len (p l : List Int) : ∀ k, (firstN p l k).length ≤ k
  | 0 => Nat.le_refl _
  | k + 1 => by
    have := firstN_len p l k
    rw [firstN]; split
    · omega
    · simp; omega
theorem firstN_mem (p l : List Int) : ∀ k, k ≤ l.length → ∀ o ∈ firstN p l k, o ∈ l
  | 0, _, o, ho => by cases ho
  | k + 1, hk, o, ho => by
    rw [firstN] at ho
    split at ho
    · exact firstN_mem p l k (by omega) o ho
    · rcases List.mem_append.1 ho with ho | ho
      · exact firstN_mem p l k (by omega) o ho
      · simp at ho; subst ho
        rw [List.getElem?_eq_getElem (by omega)]
        exact List.getElem_mem _
theorem mu51 : E.pol.mu 51 62 = false := by decide
structure J51 (p l out : List Int) (tk : Tok) (k : Nat) (blk : Nat → Blk) (nx : Nat) (j : Nat) (st : St) : Prop where
  le : j ≤ k
  h3 : st.A 3 = .frz (p.map (D.int .i64)) .unk
  h4 : ∃ t4, st.A 4 = .frz (l.map (D.int .i64)) t4
  h5 : st.A 5 = .frz (out.map (D.int .i64)) tk
  h6 : st.A 6 = .int .i64 k
  h7 : st.A 7 = .int .i64 (if thereM p l k (k - j) then 1 else 0)
  h8 : st.A 8 = .int .i64 ((k - j : Nat) : Int)
  hb : st.h.blk = blk
  hn : nx ≤ st.h.next
theorem loop51b {p l out : List Int} {tk : Tok} {k : Nat} {blk : Nat → Blk} {nx : Nat} (hk : k < l.length) (hl : ∀ o ∈ l, 0 ≤ o ∧ o < p.length) (hll : l.length ≤ 64) {Q : Po} (hQ : ∀ st, J51 p l out tk k blk nx 0 st → Q.x 2 st) (j : Nat) (st : St) (hI : J51 p l out tk k blk nx j st) : V E 51 49 (.loop l51_1) st Q := by
  refine V.count (J51 p l out tk k blk nx) ?_ ?_ j st hI
  · rintro j ⟨A, h⟩ ⟨le, h3, ⟨t4, h4⟩, h5, h6, h7, h8, hb, hn⟩
    have hlt : k - (j + 1) < k := by omega
    generalize hi : k - (j + 1) = i at *
    have hk' : k - j = i + 1 := by omega
    have hwr : IntKind.i64.wrap ((i : Int) + 1) = ((i + 1 : Nat) : Int) := by rw [wrap_id] <;> omega
    have hil : i < l.length := by omega
    have hoi := hl _ (List.getElem_mem hil)
    have hok := hl _ (List.getElem_mem hk)
    have oi1 := hoi.1
    have oi2 := hoi.2
    have ok1 := hok.1
    have ok2 := hok.2
    have oit : l[i].toNat < p.length := by omega
    have okt : l[k].toNat < p.length := by omega
    have ci : clOf p l i = p[l[i].toNat] := by simp [clOf, hil, oit]
    have ck : clOf p l k = p[l[k].toNat] := by simp [clOf, hk, okt]
    simp only at h3 h4 h5 h6 h7 h8 hb hn
    rw [cl51_1]
    refine .assoc (.then xr51_9 (by simp [o51_9, builtinD, lenD, pD, argA, h6, h8]; rfl) ?_)
    refine .head (by simp [opd, upd]; rfl) (fun _ => ?_) (fun hf => by simp [hlt] at hf)
    refine .seq (.block (.then xr51_11 (by simp [o51_11, builtinD, lenD, pD, argA, h3, h4, h6, h8, hil, hk, oi1, oi2, ok1, ok2, oit, okt]; rfl) ?_))
    by_cases hc : p[l[i].toNat] = p[l[k].toNat]
    · refine .cond (v := true) (by simp [opd, upd, hc]) (fun _ => ?_) (fun q => by cases q)
      refine .reg xr51_12 (by simp [o51_12, builtinD, lenD, pD, argA]; rfl) ?_
      show V E 51 49 r51_10 _ _
      refine .reg xr51_10 (by simp [o51_10, builtinD, lenD, pD, argA, h8]; rfl) ⟨by omega, ?_, ⟨t4, ?_⟩, ?_, ?_, ?_, ?_, ?_, ?_⟩
      · simp [upd, h3]
      · simp [upd, h4]
      · simp [upd, h5]
      · simp [upd, h6]
      · simp [upd, hk', thereM, ci, ck, hc]
      · simp [upd, hk', hwr]
      · simp [upds, hb]
      · simp; omega
    · refine .cond (v := false) (by simp [opd, upd, hc]) (fun q => by cases q) (fun _ => .skip ?_)
      refine .reg xr51_10 (by simp [o51_10, builtinD, lenD, pD, argA, h8]; rfl) ⟨by omega, ?_, ⟨t4, ?_⟩, ?_, ?_, ?_, ?_, ?_, ?_⟩
      · simp [upd, h3]
      · simp [upd, h4]
      · simp [upd, h5]
      · simp [upd, h6]
      · simp [upd, hk', thereM, ci, ck, hc, h7]
      · simp [upd, hk', hwr]
      · simp [upds, hb]
      · simp; omega
  · rintro ⟨A, h⟩ ⟨le, h3, ⟨t4, h4⟩, h5, h6, h7, h8, hb, hn⟩
    simp only at h3 h4 h5 h6 h7 h8 hb hn
    rw [cl51_1]
    refine .assoc (.then xr51_9 (by simp [o51_9, builtinD, lenD, pD, argA, h6, h8]; rfl) ?_)
    refine .head (by simp [opd, upd]; rfl) (fun hf => by simp at hf) (fun _ => hQ _ ⟨by omega, ?_, ⟨t4, ?_⟩, ?_, ?_, ?_, ?_, ?_, ?_⟩)
    · simp [upd, h3]
    · simp [upd, h4]
    · simp [upd, h5]
    · simp [upd, h6]
    · simp [upd, h7]
    · simp [upd, h8]
    · simp [upds, hb]
    · simp; omega
structure I51 (p l : List Int) (k : Nat) (st : St) : Prop where
  le : k ≤ l.length
  h3 : st.A 3 = .frz (p.map (D.int .i64)) .unk
  h4 : ∃ t4, st.A 4 = .frz (l.map (D.int .i64)) t4
  h5 : ∃ tk, st.A 5 = .frz ((firstN p l (l.length - k)).map (D.int .i64)) tk ∧ TokB st.h.blk tk 1 st.h.next ∧ (tk = .nil ↔ firstN p l (l.length - k) = [])
  h6 : st.A 6 = .int .i64 ((l.length - k : Nat) : Int)
theorem spec51 {m : M} (hv : Valid m) : ∃ j, (lev m 0 j).more = [] ∧ j < 2 ^ 30 ∧ bodyR 51 [encM m] = some (.frz ((firstN (partM' m m.rows.length) (ordN (lev m 0 j).l (lev m 0 j).is m.rows.length) (ordN (lev m 0 j).l (lev m 0 j).is m.rows.length).length).map (D.int .i64))
    (tkA (firstN (partM' m m.rows.length) (ordN (lev m 0 j).l (lev m 0 j).is m.rows.length) (ordN (lev m 0 j).l (lev m 0 j).is m.rows.length).length))) := by
  obtain ⟨j, hm, hj, hb78⟩ := spec78 hv
  refine ⟨j, hm, hj, ?_⟩
  have r2 := hv.r2
  have call : ∀ h, callI E (.fn 78 []) [.agg [.int .i64 m.ins, .int .i64 m.outs, .frz (m.rows.map rowD) .unk]] h = some (.frz ((ordN (lev m 0 j).l (lev m 0 j).is m.rows.length).map (D.int .i64)) (tkA (ordN (lev m 0 j).l (lev m 0 j).is m.rows.length)), h, {}) := fun h =>
    call_pure (by decide) (snaps1 (snap_encM _ _ 4 m)) hb78
  have hol := ord_ok (lev m 0 j).l (lev m 0 j).is m.rows.length
  have hpl : (partM' m m.rows.length).length = m.rows.length := (partN_len _ _).1
  have call77' := fun h => call77 hv h
  generalize ordN (lev m 0 j).l (lev m 0 j).is m.rows.length = l at *
  generalize partM' m m.rows.length = p at *
  have hl : ∀ o ∈ l, 0 ≤ o ∧ o < p.length := fun o ho => by have := hol.1 o ho; omega
  have hll : l.length ≤ 64 := by have := hol.2; omega
  refine bodyR_V (run51 _ _ (by simp)) ?_
  unfold b51
  refine .then xr51_0 (by simp [o51_0, builtinD, lenD, pD, argA, encM]; rfl) ?_
  refine .then xr51_1 (by simp [o51_1, builtinD, lenD, pD, argA, call77']; rfl) ?_
  refine .then xr51_2 (by simp [o51_2, builtinD, lenD, pD, argA, call]; rfl) ?_
  refine .then xr51_3 (by simp [o51_3, builtinD, lenD, pD, argA]; rfl) ?_
  refine .assoc (.then xr51_4 (by simp [o51_4, builtinD, lenD, pD, argA]; rfl) ?_)
  refine .seq (.block (V.count (I51 p l) ?_ ?_ l.length _ ⟨Nat.le_refl _, by simp [upd], ⟨_, by simp [upd]; rfl⟩, ⟨.nil, by simp [upd, firstN], .inl rfl, by simp [firstN]⟩, by simp [upd]⟩))
  · rintro k ⟨A, h⟩ ⟨le, h3, ⟨t4, h4⟩, ⟨tk, h5, ht, htn⟩, h6⟩
    have hlt : l.length - (k + 1) < l.length := by omega
    generalize hi : l.length - (k + 1) = i at *
    have hk' : l.length - k = i + 1 := by omega
    have hwr : IntKind.i64.wrap ((i : Int) + 1) = ((i + 1 : Nat) : Int) := by rw [wrap_id] <;> omega
    have hfl := firstN_len p l i
    have hfs : firstN p l (i + 1) = if thereM p l i i then firstN p l i else firstN p l i ++ [l.getD i 0] := rfl
    generalize firstN p l i = out at *
    simp only at h3 h4 h5 h6 ht
    rw [cl51_0]
    refine .assoc (.then xr51_5 (by simp [o51_5, builtinD, lenD, pD, argA, h4, h6]; rfl) ?_)
    refine .head (by simp [opd, upd]; rfl) (fun _ => ?_) (fun hf => by simp [hlt] at hf)
    refine .seq (.block (.then xr51_7 (by simp [o51_7, builtinD, lenD, pD, argA]; rfl) ?_))
    refine .assoc (.then xr51_8 (by simp [o51_8, builtinD, lenD, pD, argA]; rfl) ?_)
    refine .seq (.block (loop51b (p := p) (l := l) (out := out) (tk := tk) (k := i) (blk := h.blk) (nx := h.next) hlt hl hll ?_ i _ ⟨Nat.le_refl _, by simp [upd, h3], ⟨t4, by simp [upd, h4]⟩, by simp [upd, h5], by simp [upd, h6], by simp [upd, thereM], by simp [upd], by simp [upds], by simp; omega⟩))
    rintro ⟨A1, h1⟩ ⟨_, g3, ⟨t4', g4⟩, g5, g6, g7, g8, gb, gn⟩
    simp only at g3 g4 g5 g6 g7 g8 gb gn
    rw [Nat.sub_zero] at g7
    have ht1 : TokB h1.blk tk 1 h1.next := by rw [gb]; exact ht.mono gn (fun b _ hb => hb)
    have hltI : (i : Int) < l.length := by omega
    have hgl : l.getD i 0 = l[i] := by simp [hlt]
    show V E 51 49 _ _ _
    cases hth : thereM p l i i with
    | true =>
      rw [hth] at g7 hfs
      simp only [if_true] at g7 hfs
      refine .then xr51_13 (by simp [o51_13, builtinD, lenD, pD, argA, g7]; rfl) ?_
      refine .cond (v := false) (by simp [opd, upd]) (fun q => by cases q) (fun _ => .skip ?_)
      show V E 51 49 r51_6 _ _
      refine .reg xr51_6 (by simp [o51_6, builtinD, lenD, pD, argA, g6]; rfl) ⟨by omega, ?_, ⟨t4', ?_⟩, ⟨tk, ?_, ?_, ?_⟩, ?_⟩
      · simp [upd, g3]
      · simp [upd, g4]
      · rw [hk', hfs]; simp [upd, g5]
      · exact ht1.mono (by simp; omega) (fun b _ hb => by simpa [upds] using hb)
      · rw [hk', hfs]; exact htn
      · simp [upd, hk', hwr]
    | false =>
      rw [hth] at g7 hfs
      simp only [Bool.false_eq_true, if_false] at g7 hfs
      refine .then xr51_13 (by simp [o51_13, builtinD, lenD, pD, argA, g7]; rfl) ?_
      refine .cond (v := true) (by simp [opd, upd]) (fun _ => ?_) (fun q => by cases q)
      have ht2 : TokB h1.blk tk 1 (h1.next + 2) := ht1.mono (by omega) (fun b _ hb => hb)
      have ha : ∀ s, builtinD E.T (E.pol.mu 51) s h1.blk .append [62, 62] [.frz (out.map (D.int .i64)) tk, .frz [.int .i64 l[i]] .exact] = some { v := .frz (out.map (D.int .i64) ++ [.int .i64 l[i]]) (.own s 1), wr := tokWr tk s, rd := tokRd tk } := fun s => by
        have := app62 (mu := E.pol.mu 51) (s := s) (blk := h1.blk) (xs := out) (tk := tk) (tk' := .exact) (x := l[i]) mu51 ht2 (by omega)
        simpa using this
      refine .reg xr51_14 (by simp [o51_14, pD, argA, g4, g5, g6, hlt, hltI, ha, mu51, mapK, snapDepth, snap_int, kills]; rfl) ?_
      show V E 51 49 r51_6 _ _
      refine .reg xr51_6 (by simp [o51_6, builtinD, lenD, pD, argA, g6]; rfl) ⟨by omega, ?_, ⟨t4', ?_⟩, ⟨.own (h1.next + 2 + 6) 1, ?_, ?_, ?_⟩, ?_⟩
      · simp [upd, g3]
      · simp [upd, g4]
      · rw [hk', hfs, hgl]; simp [upd]
      · exact TokB.grow (by simp <;> omega)
      · rw [hk', hfs]; simp
      · simp [upd, hk', hwr]
  · rintro ⟨A, h⟩ ⟨le, h3, ⟨t4, h4⟩, ⟨tk, h5, ht, htn⟩, h6⟩
    simp only at h3 h4 h5 h6 ht
    rw [cl51_0]
    refine .assoc (.then xr51_5 (by simp [o51_5, builtinD, lenD, pD, argA, h4, h6]; rfl) ?_)
    refine .head (by simp [opd, upd]; rfl) (fun hf => by simp at hf) (fun _ => ?_)
    refine .then xr51_15 (by simp [o51_15, builtinD, lenD, pD, argA, h5]; rfl) (.ret ⟨_, by simp [resultsD, mapO, resultD, upd]; rfl, ?_⟩)
    rw [show snapDepth = 7 + 2 from rfl, snap_ints]
    have : Tok.fade true tk = tkA (firstN p l l.length) := by
      rw [Nat.sub_zero] at htn
      rcases ht with rfl | ⟨o, rfl, _, _⟩
      · rw [htn.1 rfl]; rfl
      · cases hq : firstN p l l.length with
        | nil => have := htn.2 hq; cases this
        | cons _ _ => rfl
    simp [this]
end Go.Eng.E3
namespace Go.Eng.E3
open Go Go.Eng Go.Proofs
set_option maxRecDepth 100000
attribute [local simp] execR runOps stepOp wantedD evalOp opd upd St.put Eff.apply upds looseOk FP.free FP.idle apart Eff.fp ofVal loadD storeD partD setPart indexAddrD isShift arith unD callOp mapO D.okc pickD buildable buildD placeD convD
set_option linter.unusedSimpArgs false
set_option maxHeartbeats 4000000
def lastK (p l : List Int) (is : List Bool) (s : Nat) : Nat → Int
  | 0 => -1
  | n + 1 => if is.getD s false && decide (clOf p l n = p.getD s 0) then (n : Int) else lastK p l is s n
def mapN (p l : List Int) (is : List Bool) (s : Nat) : List Int := (List.range s).map fun s => lastK p l is s l.length
theorem mapN_succ (p l : List Int) (is : List Bool) (s : Nat) : mapN p l is (s + 1) = mapN p l is s ++ [lastK p l is s l.length] := by simp [mapN, List.range_succ]
theorem mapN_len (p l : List Int) (is : List Bool) (s : Nat) : (mapN p l is s).length = s := by simp [mapN]
theorem mu52 : E.pol.mu 52 62 = false := by decide
structure J52 (p l out : List Int) (is : List Bool) (tk : Tok) (s : Nat) (blk : Nat → Blk) (nx : Nat) (j : Nat) (st : St) : Prop where
  le : j ≤ l.length
  h3 : st.A 3 = .frz (p.map (D.int .i64)) .unk
  h4 : ∃ t4, st.A 4 = .frz (l.map (D.int .i64)) t4
  h5 : st.A 5 = .frz (is.map D.bool) .exact
  h6 : st.A 6 = .frz (out.map (D.int .i64)) tk
  h7 : st.A 7 = .int .i64 s
  h8 : st.A 8 = .int .i64 (lastK p l is s (l.length - j))
  h9 : st.A 9 = .int .i64 ((l.length - j : Nat) : Int)
  hb : st.h.blk = blk
  hn : nx ≤ st.h.next
theorem loop52b {p l out : List Int} {is : List Bool} {tk : Tok} {s : Nat} {blk : Nat → Blk} {nx : Nat} (hs : s < p.length) (hip : is.length = p.length) (hl : ∀ o ∈ l, 0 ≤ o ∧ o < p.length) (hll : l.length ≤ 64) {Q : Po} (hQ : ∀ st, J52 p l out is tk s blk nx 0 st → Q.x 2 st) (j : Nat) (st : St) (hI : J52 p l out is tk s blk nx j st) : V E 52 52 (.loop l52_1) st Q := by
  refine V.count (J52 p l out is tk s blk nx) ?_ ?_ j st hI
  · rintro j ⟨A, h⟩ ⟨le, h3, ⟨t4, h4⟩, h5, h6, h7, h8, h9, hb, hn⟩
    have hlt : l.length - (j + 1) < l.length := by omega
    generalize hi : l.length - (j + 1) = i at *
    have hk' : l.length - j = i + 1 := by omega
    have hwr : IntKind.i64.wrap ((i : Int) + 1) = ((i + 1 : Nat) : Int) := by rw [wrap_id] <;> omega
    have hoi := hl _ (List.getElem_mem hlt)
    have oi1 := hoi.1
    have oi2 := hoi.2
    have oit : l[i].toNat < p.length := by omega
    have ci : clOf p l i = p[l[i].toNat] := by simp [clOf, hlt, oit]
    have hsi : s < is.length := by omega
    have hsI : (s : Int) < is.length := by omega
    have hsP : (s : Int) < p.length := by omega
    simp only at h3 h4 h5 h6 h7 h8 h9 hb hn
    rw [cl52_1]
    refine .assoc (.then xr52_10 (by simp [o52_10, builtinD, lenD, pD, argA, h4, h9]; rfl) ?_)
    refine .head (by simp [opd, upd]; rfl) (fun _ => ?_) (fun hf => by simp [hlt] at hf)
    have tail : ∀ (A2 : Nat → D) (n2 : Nat) (Q : Po), h.next ≤ n2 → A2 3 = A 3 → A2 4 = A 4 → A2 5 = A 5 → A2 6 = A 6 → A2 7 = A 7 → A2 9 = A 9 → A2 8 = .int .i64 (lastK p l is s (i + 1)) → (∀ st, J52 p l out is tk s blk nx j st → Q.n st) → V E 52 52 r52_11 ⟨A2, ⟨n2, h.blk⟩⟩ Q := by
      intro A2 n2 Q hn2 e3 e4 e5 e6 e7 e9 e8 hq
      have g9 := e9.trans h9
      refine .reg xr52_11 (by simp [o52_11, builtinD, lenD, pD, argA, g9]; rfl) (hq _ ⟨by omega, ?_, ⟨t4, ?_⟩, ?_, ?_, ?_, ?_, ?_, ?_, ?_⟩)
      · simp [upd, e3, h3]
      · simp [upd, e4, h4]
      · simp [upd, e5, h5]
      · simp [upd, e6, h6]
      · simp [upd, e7, h7]
      · simp [upd, hk', e8]
      · simp [upd, hk', hwr]
      · simp [upds, hb]
      · simp; omega
    cases c1 : is[s] with
    | false =>
      have hlk : lastK p l is s (i + 1) = lastK p l is s i := by rw [lastK]; simp [hsi, c1]
      refine .seq (.block (.then xr52_12 (by simp [o52_12, builtinD, lenD, pD, argA, h3, h4, h5, h7, h9, hlt, hsi, hsI, c1]; rfl) ?_))
      refine .cond (v := false) (by simp [opd, upd]) (fun q => by cases q) (fun _ => .skip ?_)
      refine tail _ _ _ ?_ ?_ ?_ ?_ ?_ ?_ ?_ ?_ (fun st hst => hst)
      · omega
      all_goals simp [upd, hlk, h8]
    | true =>
      by_cases hc : p[l[i].toNat] = p[s]
      · have hlk : lastK p l is s (i + 1) = i := by rw [lastK]; simp [hsi, c1, ci, hs, hc]
        refine .seq (.block (.then xr52_12 (by simp [o52_12, builtinD, lenD, pD, argA, h3, h4, h5, h7, h9, hlt, hsi, hsI, hsP, hs, c1, oi1, oi2, oit, hc]; rfl) ?_))
        refine .cond (v := true) (by simp [opd, upd]) (fun _ => ?_) (fun q => by cases q)
        refine .reg xr52_13 (by simp [o52_13, builtinD, lenD, pD, argA, h9]; rfl) ?_
        show V E 52 52 r52_11 _ _
        refine tail _ _ _ ?_ ?_ ?_ ?_ ?_ ?_ ?_ ?_ (fun st hst => hst)
        · omega
        all_goals simp [upd, hlk, h8]
      · have hlk : lastK p l is s (i + 1) = lastK p l is s i := by rw [lastK]; simp [hsi, c1, ci, hs, hc]
        refine .seq (.block (.then xr52_12 (by simp [o52_12, builtinD, lenD, pD, argA, h3, h4, h5, h7, h9, hlt, hsi, hsI, hsP, hs, c1, oi1, oi2, oit]; rfl) ?_))
        refine .cond (v := false) (by simp [opd, upd, hc]) (fun q => by cases q) (fun _ => .skip ?_)
        refine tail _ _ _ ?_ ?_ ?_ ?_ ?_ ?_ ?_ ?_ (fun st hst => hst)
        · omega
        all_goals simp [upd, hlk, h8]
  · rintro ⟨A, h⟩ ⟨le, h3, ⟨t4, h4⟩, h5, h6, h7, h8, h9, hb, hn⟩
    simp only at h3 h4 h5 h6 h7 h8 h9 hb hn
    rw [cl52_1]
    refine .assoc (.then xr52_10 (by simp [o52_10, builtinD, lenD, pD, argA, h4, h9]; rfl) ?_)
    refine .head (by simp [opd, upd]; rfl) (fun hf => by simp at hf) (fun _ => hQ _ ⟨by omega, ?_, ⟨t4, ?_⟩, ?_, ?_, ?_, ?_, ?_, ?_, ?_⟩)
    · simp [upd, h3]
    · simp [upd, h4]
    · simp [upd, h5]
    · simp [upd, h6]
    · simp [upd, h7]
    · simp [upd, h8]
    · simp [upd, h9]
    · simp [upds, hb]
    · simp; omega
structure I52 (p l : List Int) (is : List Bool) (k : Nat) (st : St) : Prop where
  le : k ≤ p.length
  h3 : st.A 3 = .frz (p.map (D.int .i64)) .unk
  h4 : ∃ t4, st.A 4 = .frz (l.map (D.int .i64)) t4
  h5 : st.A 5 = .frz (is.map D.bool) .exact
  h6 : ∃ tk, st.A 6 = .frz ((mapN p l is (p.length - k)).map (D.int .i64)) tk ∧ TokB st.h.blk tk 1 st.h.next ∧ (tk = .nil ↔ p.length - k = 0)
  h7 : st.A 7 = .int .i64 ((p.length - k : Nat) : Int)
def firstsM (m : M) (j : Nat) : List Int := firstN (partM' m m.rows.length) (ordN (lev m 0 j).l (lev m 0 j).is m.rows.length) (ordN (lev m 0 j).l (lev m 0 j).is m.rows.length).length
theorem spec52 {m : M} (hv : Valid m) : ∃ j, (lev m 0 j).more = [] ∧ j < 2 ^ 30 ∧ bodyR 51 [encM m] = some (.frz ((firstsM m j).map (D.int .i64)) (tkA (firstsM m j))) ∧
    bodyR 52 [encM m] = some (.frz ((mapN (partM' m m.rows.length) (firstsM m j) (reachM m 0) m.rows.length).map (D.int .i64)) .unk) := by
  obtain ⟨j, hm, hj, hb51⟩ := spec51 hv
  refine ⟨j, hm, hj, hb51, ?_⟩
  have r1 := hv.r1
  have r2 := hv.r2
  have call51 : ∀ h, callI E (.fn 51 []) [.agg [.int .i64 m.ins, .int .i64 m.outs, .frz (m.rows.map rowD) .unk]] h = some (.frz ((firstsM m j).map (D.int .i64)) (tkA (firstsM m j)), h, {}) := fun h =>
    call_pure (by decide) (snaps1 (snap_encM _ _ 4 m)) hb51
  have call79 : ∀ h, callI E (.fn 79 []) [.agg [.int .i64 m.ins, .int .i64 m.outs, .frz (m.rows.map rowD) .unk], .int .i64 0] h = some (.frz ((reachM m 0).map D.bool) .exact, h, {}) := fun h =>
    call_pure (by decide) (snaps2 (snap_encM _ _ 4 m) rfl) (spec79 hv hv.r1)
  have hol := ord_ok (lev m 0 j).l (lev m 0 j).is m.rows.length
  have hpl : (partM' m m.rows.length).length = m.rows.length := (partN_len _ _).1
  have hrl : (reachM m 0).length = m.rows.length := by
    have hr : ∀ (f : List Bool → Nat → List Bool), (∀ o i, (f o i).length = o.length) → ∀ (xs : List Nat) (o : List Bool), (xs.foldl f o).length = o.length := by
      intro f hf xs
      induction xs with
      | nil => intro o; rfl
      | cons x xs ih => intro o; rw [List.foldl_cons, ih, hf]
    have h1 : ∀ s o i, (relaxM m s o i).length = o.length := fun s o i => by unfold relaxM; split <;> simp
    have h2 : ∀ s o i, (rowRel m s o i).length = o.length := fun s o i => hr _ (h1 s) _ _
    have h3 : ∀ o s, (roundRel m o s).length = o.length := fun o s => hr (fun o s => rowRel m s o m.ins) (fun o s => h2 s o _) _ _
    have h4 : ∀ o k, (reachN m o k).length = o.length := fun o k => hr (fun o _ => roundRel m o m.rows.length) (fun o _ => h3 o _) _ _
    unfold reachM
    rw [h4]; simp
  have call77' := fun h => call77 hv h
  have hfl : (firstsM m j).length ≤ 64 := by
    have := firstN_len (partM' m m.rows.length) (ordN (lev m 0 j).l (lev m 0 j).is m.rows.length) (ordN (lev m 0 j).l (lev m 0 j).is m.rows.length).length
    have := hol.2
    unfold firstsM; omega
  have hl : ∀ o ∈ firstsM m j, 0 ≤ o ∧ o < (partM' m m.rows.length).length := fun o ho => by
    have := hol.1 o (firstN_mem _ _ _ (Nat.le_refl _) o ho); omega
  generalize firstsM m j = l at *
  generalize reachM m 0 = is at *
  generalize partM' m m.rows.length = p at *
  have hip : is.length = p.length := by omega
  rw [← hpl]
  refine bodyR_V (run52 _ _ (by simp)) ?_
  unfold b52
  refine .then xr52_0 (by simp [o52_0, builtinD, lenD, pD, argA, encM]; rfl) ?_
  refine .then xr52_1 (by simp [o52_1, builtinD, lenD, pD, argA, call77']; rfl) ?_
  refine .then xr52_2 (by simp [o52_2, builtinD, lenD, pD, argA, call51]; rfl) ?_
  refine .then xr52_3 (by simp [o52_3, builtinD, lenD, pD, argA, call79]; rfl) ?_
  refine .then xr52_4 (by simp [o52_4, builtinD, lenD, pD, argA]; rfl) ?_
  refine .assoc (.then xr52_5 (by simp [o52_5, builtinD, lenD, pD, argA]; rfl) ?_)
  refine .seq (.block (V.count (I52 p l is) ?_ ?_ p.length _ ⟨Nat.le_refl _, by simp [upd], ⟨_, by simp [upd]; rfl⟩, by simp [upd], ⟨.nil, by simp [upd, mapN], .inl rfl, by simp⟩, by simp [upd]⟩))
  · rintro k ⟨A, h⟩ ⟨le, h3, ⟨t4, h4⟩, h5, ⟨tk, h6, ht, htn⟩, h7⟩
    have hlt : p.length - (k + 1) < p.length := by omega
    generalize hi : p.length - (k + 1) = s at *
    have hk' : p.length - k = s + 1 := by omega
    have hwr : IntKind.i64.wrap ((s : Int) + 1) = ((s + 1 : Nat) : Int) := by rw [wrap_id] <;> omega
    have hms := mapN_succ p l is s
    have hml := mapN_len p l is s
    generalize mapN p l is s = out at *
    simp only at h3 h4 h5 h6 h7 ht
    rw [cl52_0]
    refine .assoc (.then xr52_6 (by simp [o52_6, builtinD, lenD, pD, argA, h3, h7]; rfl) ?_)
    refine .head (by simp [opd, upd]; rfl) (fun _ => ?_) (fun hf => by simp [hlt] at hf)
    refine .seq (.block (.then xr52_8 (by simp [o52_8, builtinD, lenD, pD, argA]; rfl) ?_))
    refine .assoc (.then xr52_9 (by simp [o52_9, builtinD, lenD, pD, argA]; rfl) ?_)
    refine .seq (.block (loop52b (p := p) (l := l) (out := out) (is := is) (tk := tk) (s := s) (blk := h.blk) (nx := h.next) hlt hip hl hfl ?_ l.length _ ⟨Nat.le_refl _, by simp [upd, h3], ⟨t4, by simp [upd, h4]⟩, by simp [upd, h5], by simp [upd, h6], by simp [upd, h7], by simp [upd, lastK], by simp [upd], by simp [upds], by simp; omega⟩))
    rintro ⟨A1, h1⟩ ⟨_, g3, ⟨t4', g4⟩, g5, g6, g7, g8, g9, gb, gn⟩
    simp only at g3 g4 g5 g6 g7 g8 g9 gb gn
    rw [Nat.sub_zero] at g8
    have ht1 : TokB h1.blk tk 1 h1.next := by rw [gb]; exact ht.mono gn (fun b _ hb => hb)
    have ha : ∀ s', builtinD E.T (E.pol.mu 52) s' h1.blk .append [62, 62] [.frz (out.map (D.int .i64)) tk, .frz [.int .i64 (lastK p l is s l.length)] .exact] = some { v := .frz (out.map (D.int .i64) ++ [.int .i64 (lastK p l is s l.length)]) (.own s' 1), wr := tokWr tk s', rd := tokRd tk } := fun s' => by
      have := app62 (mu := E.pol.mu 52) (s := s') (blk := h1.blk) (xs := out) (tk := tk) (tk' := .exact) (x := lastK p l is s l.length) mu52 ht1 (by omega)
      simpa using this
    show V E 52 52 r52_14 _ _
    refine .reg xr52_14 (by simp [o52_14, pD, argA, g6, g8, ha, mu52, mapK, snapDepth, snap_int, kills]; rfl) ?_
    show V E 52 52 r52_7 _ _
    refine .reg xr52_7 (by simp [o52_7, builtinD, lenD, pD, argA, g7]; rfl) ⟨by omega, ?_, ⟨t4', ?_⟩, ?_, ⟨.own (h1.next + 3) 1, ?_, ?_, by simp; omega⟩, ?_⟩
    · simp [upd, g3]
    · simp [upd, g4]
    · simp [upd, g5]
    · rw [hk', hms]; simp [upd]
    · exact TokB.grow (by simp <;> omega)
    · simp [upd, hk', hwr]
  · rintro ⟨A, h⟩ ⟨le, h3, ⟨t4, h4⟩, h5, ⟨tk, h6, ht, htn⟩, h7⟩
    simp only at h3 h4 h5 h6 h7 ht
    rw [cl52_0]
    refine .assoc (.then xr52_6 (by simp [o52_6, builtinD, lenD, pD, argA, h3, h7]; rfl) ?_)
    refine .head (by simp [opd, upd]; rfl) (fun hf => by simp at hf) (fun _ => ?_)
    refine .then xr52_15 (by simp [o52_15, builtinD, lenD, pD, argA, h6]; rfl) (.ret ⟨_, by simp [resultsD, mapO, resultD, upd]; rfl, ?_⟩)
    rw [show snapDepth = 7 + 2 from rfl, snap_ints]
    have : Tok.fade true tk = .unk := by
      rcases ht with rfl | ⟨o, rfl, _, _⟩
      · have := htn.1 rfl; omega
      · rfl
    simp [this]
end Go.Eng.E3
namespace Go.Eng.E3
open Go Go.Eng Go.Proofs
set_option maxRecDepth 100000
attribute [local simp] execR runOps stepOp wantedD evalOp opd upd St.put Eff.apply upds looseOk FP.free FP.idle apart Eff.fp ofVal loadD storeD partD setPart indexAddrD isShift arith unD callOp mapO D.okc pickD buildable buildD placeD convD
set_option linter.unusedSimpArgs false
set_option maxHeartbeats 4000000
theorem app72 {mu : TypeId → Bool} {s : Nat} {blk : Nat → Blk} {xs : List (Int × Int)} {tk tk' : Tok} {x : Int × Int} {nx : Nat} (hmu : mu 72 = false) (ht : TokB blk tk 2 nx) (hl : xs.length < 2 ^ 39) :
    builtinD E.T mu s blk .append [72, 72] [.frz (xs.map pD) tk, .frz [.agg [.int .i64 x.1, .int .i64 x.2]] tk'] = some { v := .frz ((xs ++ [x]).map pD) (.own s 2), wr := tokWr tk s, rd := tokRd tk } := by
  have hall : ∀ z ∈ xs.map pD ++ [pD x], z.cells.length = 2 := fun z hz => by
    rcases List.mem_append.1 hz with hz | hz
    · obtain ⟨y, _, rfl⟩ := List.mem_map.1 hz; rfl
    · simp at hz; subst hz; rfl
  have hle : ((xs.map pD).length + [pD x].length) * 16 * 2 ≤ maxAppend := by
    simp only [List.length_map, List.length_singleton, maxAppend]; omega
  have hsn : mapK (snap false blk snapDepth) [pD x] = some ([pD x], []) := rfl
  rw [show D.agg [.int .i64 x.1, .int .i64 x.2] = pD x from rfl]
  rcases ht with rfl | ⟨o, rfl, h2, h3⟩
  · simp only [builtinD, ok_72, desc_72, if_true, appendD, elem_72, elemsD, hmu, Bool.false_eq_true, if_false, hsn, size_55, bytes_55, kills, List.map_nil, List.append_nil, List.nil_append]
    rw [if_pos ⟨hall, hle, by decide, by decide⟩]
    simp [tokWr, tokRd]
  · simp only [builtinD, ok_72, desc_72, if_true, appendD, elem_72, elemsD, hmu, Bool.false_eq_true, if_false, hsn, size_55, bytes_55, kills, List.map_nil, List.append_nil, List.nil_append]
    rw [if_pos ⟨hall, hle, by decide, by decide⟩]
    simp only [if_true, h2]
    simp [tokWr, tokRd]
theorem app32 {mu : TypeId → Bool} {s : Nat} {blk : Nat → Blk} {xs : List (List (Int × Int))} {tk tk' : Tok} {x : List (Int × Int)} {nx : Nat} (hmu : mu 32 = false) (ht : TokB blk tk 1 nx) (hl : xs.length < 2 ^ 39) :
    builtinD E.T mu s blk .append [32, 32] [.frz (xs.map rowD) tk, .frz [.frz (x.map pD) .unk] tk'] = some { v := .frz ((xs ++ [x]).map rowD) (.own s 1), wr := tokWr tk s, rd := tokRd tk } := by
  have hall : ∀ z ∈ xs.map rowD ++ [rowD x], z.cells.length = 1 := fun z hz => by
    rcases List.mem_append.1 hz with hz | hz
    · obtain ⟨y, _, rfl⟩ := List.mem_map.1 hz; rfl
    · simp at hz; subst hz; rfl
  have hle : ((xs.map rowD).length + [rowD x].length) * 24 * 2 ≤ maxAppend := by
    simp only [List.length_map, List.length_singleton, maxAppend]; omega
  have hsn : mapK (snap false blk snapDepth) [rowD x] = some ([rowD x], []) := by
    simp only [mapK, show snap false blk snapDepth (rowD x) = some (rowD x, []) from snap_rowD false blk 6 x]; rfl
  rw [show D.frz (x.map pD) .unk = rowD x from rfl]
  rcases ht with rfl | ⟨o, rfl, h2, h3⟩
  · simp only [builtinD, ok_32, desc_32, if_true, appendD, elem_32, elemsD, hmu, Bool.false_eq_true, if_false, hsn, size_72, bytes_72, kills, List.map_nil, List.append_nil, List.nil_append]
    rw [if_pos ⟨hall, hle, by decide, by decide⟩]
    simp [tokWr, tokRd]
  · simp only [builtinD, ok_32, desc_32, if_true, appendD, elem_32, elemsD, hmu, Bool.false_eq_true, if_false, hsn, size_72, bytes_72, kills, List.map_nil, List.append_nil, List.nil_append]
    rw [if_pos ⟨hall, hle, by decide, by decide⟩]
    simp only [if_true, h2]
    simp [tokWr, tokRd]
def moveE (to : List Int) (x : Int × Int) : Int × Int := if 0 ≤ x.1 then (to.getD x.1.toNat 0, x.2) else x
def minRow (m : M) (to : List Int) (s : Nat) (i : Nat) : List (Int × Int) := (List.range i).map fun i => moveE to (edge m s i)
theorem minRow_succ (m : M) (to : List Int) (s i : Nat) : minRow m to s (i + 1) = minRow m to s i ++ [moveE to (edge m s i)] := by simp [minRow, List.range_succ]
def minRows (m : M) (to l : List Int) (k : Nat) : List (List (Int × Int)) := (List.range k).map fun k => minRow m to (l.getD k 0).toNat m.ins
theorem minRows_succ (m : M) (to l : List Int) (k : Nat) : minRows m to l (k + 1) = minRows m to l k ++ [minRow m to (l.getD k 0).toNat m.ins] := by simp [minRows, List.range_succ]
theorem mu20a : E.pol.mu 20 72 = false := by decide
theorem mu20b : E.pol.mu 20 32 = false := by decide
structure F20 (m : M) (l to : List Int) (rows : List (List (Int × Int))) (k N : Nat) (st : St) : Prop where
  h1 : st.A 1 = .ptr 0 0 0
  h2 : st.A 2 = .ptr 1 0 0
  h3 : ∃ t3, st.A 3 = .frz (l.map (D.int .i64)) t3
  h4 : st.A 4 = .frz (to.map (D.int .i64)) .unk
  h5 : st.A 5 = .ptr 13 0 0
  h6 : st.A 6 = .int .i64 k
  hb : st.h.blk 0 = .live 3 [encM m]
  hz : ∃ z, st.h.blk 1 = .live 3 [.agg [.int .i64 0, .int .i64 0, z]]
  hr : ∃ tr, st.h.blk 13 = .live 3 [.agg [.int .i64 m.ins, .int .i64 m.outs, .frz (rows.map rowD) tr]] ∧ TokB st.h.blk tr 1 N ∧ (tr = .nil ↔ k = 0)
  hN : 15 ≤ N
  hn : N ≤ st.h.next
theorem F20.step {m : M} {l to : List Int} {rows : List (List (Int × Int))} {k N : Nat} {A A' : Nat → D} {h h' : H} (f : F20 m l to rows k N ⟨A, h⟩) (e : ∀ t, t < 7 → A' t = A t) (hn : h.next ≤ h'.next) (hb : ∀ b, b < N → h'.blk b = h.blk b) : F20 m l to rows k N ⟨A', h'⟩ := by
  obtain ⟨q1, q2, ⟨t3, q3⟩, q4, q5, q6, q7, ⟨z, q8⟩, ⟨tr, q9, q10, q11⟩, q12, q13⟩ := f
  simp only at q1 q2 q3 q4 q5 q6 q7 q8 q9 q10 q13
  refine ⟨(e 1 (by omega)).trans q1, (e 2 (by omega)).trans q2, ⟨t3, (e 3 (by omega)).trans q3⟩, (e 4 (by omega)).trans q4, (e 5 (by omega)).trans q5, (e 6 (by omega)).trans q6, (hb 0 (by omega)).trans q7, ⟨z, (hb 1 (by omega)).trans q8⟩, ⟨tr, (hb 13 (by omega)).trans q9, ?_, q11⟩, q12, by simp only; omega⟩
  exact q10.mono (Nat.le_refl _) (fun b hb1 hb2 => (hb b hb1).trans hb2)
def T7 (blk : Nat → Blk) (tk : Tok) (N nx : Nat) : Prop := tk = .nil ∨ ∃ o, tk = .own o 2 ∧ blk o = .tok ∧ N ≤ o ∧ o < nx
theorem T7.tok {blk : Nat → Blk} {tk : Tok} {N nx : Nat} (h : T7 blk tk N nx) : TokB blk tk 2 nx := by
  rcases h with h | ⟨o, h1, h2, _, h3⟩
  · exact .inl h
  · exact .inr ⟨o, h1, h2, h3⟩
structure J20 (m : M) (l to : List Int) (rows : List (List (Int × Int))) (k N : Nat) (j : Nat) (st : St) : Prop where
  le : j ≤ m.ins
  f : F20 m l to rows k N st
  h7 : ∃ t7, st.A 7 = .frz ((minRow m to (l.getD k 0).toNat (m.ins - j)).map pD) t7 ∧ T7 st.h.blk t7 N st.h.next
  h8 : st.A 8 = .int .i64 ((m.ins - j : Nat) : Int)
theorem loop20b {m : M} (hv : Valid m) {l to : List Int} {rows : List (List (Int × Int))} {k N : Nat} (hk : k < l.length) (hl : ∀ o ∈ l, 0 ≤ o ∧ o < m.rows.length) (hto : to.length = m.rows.length) {Q : Po} (hQ : ∀ st, J20 m l to rows k N 0 st → Q.x 2 st) (j : Nat) (st : St) (hI : J20 m l to rows k N j st) : V E 20 62 (.loop l20_1) st Q := by
  have i2 := hv.i2
  refine V.count (J20 m l to rows k N) ?_ ?_ j st hI
  · rintro j ⟨A, h⟩ ⟨le, f, ⟨t7, h7, ht⟩, h8⟩
    have hlt : m.ins - (j + 1) < m.ins := by omega
    generalize hi : m.ins - (j + 1) = i at *
    have hk' : m.ins - j = i + 1 := by omega
    have hwr : IntKind.i64.wrap ((i : Int) + 1) = ((i + 1 : Nat) : Int) := by rw [wrap_id] <;> omega
    have hok := hl _ (List.getElem_mem hk)
    have o1 := hok.1
    have o2 := hok.2
    have ot : l[k].toNat < m.rows.length := by omega
    have hls : i < m.rows[l[k].toNat].length := by rw [hv.len _ (List.getElem_mem ot)]; exact hlt
    have es : edge m (l.getD k 0).toNat i = m.rows[l[k].toNat][i] := by simp [edge, hk, ot, hls]
    have hxok := hv.ok _ (List.getElem_mem ot) _ (List.getElem_mem hls)
    have hms := minRow_succ m to (l.getD k 0).toNat i
    have hml : (minRow m to (l.getD k 0).toNat i).length < 2 ^ 39 := by simp [minRow]; omega
    obtain ⟨x, hx⟩ : ∃ x, m.rows[l[k].toNat][i] = x := ⟨_, rfl⟩
    rw [hx] at es hxok
    rw [es] at hms
    generalize minRow m to (l.getD k 0).toNat i = row at *
    have f0 := f
    obtain ⟨h1, h2, ⟨t3, h3⟩, h4, h5, h6, hb, ⟨z, hz⟩, ⟨tr, hr, htr, htn⟩, hN, hn⟩ := f0
    simp only at h1 h2 h3 h4 h5 h6 h7 h8 hb hz hr htr hn ht
    have hb0 : ∀ j, (0 = h.next + j) = False := fun j => by simp; omega
    have rest : ∀ (A2 : Nat → D) (h2' : H) (y : Int × Int) (c : Nat) (Q : Po), h.next ≤ c → c < h2'.next → (∀ t, t < 9 → A2 t = A t) → A2 9 = .ptr c 0 0 → h2'.blk c = .live 2 [.agg [.int .i64 y.1, .int .i64 y.2]] → (∀ b, b < h.next → h2'.blk b = h.blk b) → moveE to x = y → (∀ st, J20 m l to rows k N j st → Q.n st) →
        V E 20 62 r20_14 ⟨A2, h2'⟩ ((Q.upto fun s' => V E 20 62 r20_10 s' Q).within 3) := by
      intro A2 h2' y c Q hc1 hc2 he e9 ec eb hy hq
      have e7 := (he 7 (by omega)).trans h7
      have ht2 : TokB h2'.blk t7 2 h2'.next := ht.tok.mono (by omega) (fun b hb1 hb2 => (eb b hb1).trans hb2)
      have ha : ∀ s, builtinD E.T (E.pol.mu 20) s h2'.blk .append [72, 72] [.frz (row.map pD) t7, .frz [.agg [.int .i64 y.1, .int .i64 y.2]] .exact] = some { v := .frz (row.map pD ++ [.agg [.int .i64 y.1, .int .i64 y.2]]) (.own s 2), wr := tokWr t7 s, rd := tokRd t7 } := fun s => by
        have := app72 (mu := E.pol.mu 20) (s := s) (blk := h2'.blk) (xs := row) (tk := t7) (tk' := .exact) (x := y) mu20a ht2 hml
        simpa [pD] using this
      refine .reg xr20_14 (by simp [o20_14, pD, argA, e7, e9, ec, ha, mu20a, mapK, snapDepth, snap_int, snap, kills]; rfl) ?_
      show V E 20 62 r20_10 _ Q
      have g8 := (he 8 (by omega)).trans h8
      refine .reg xr20_10 (by simp [o20_10, builtinD, lenD, pD, argA, g8]; rfl) (hq _ ⟨by omega, ?_, ⟨.own (h2'.next + 3) 2, ?_, ?_⟩, ?_⟩)
      · refine (f.step (A' := A2) (h' := h2') (fun t ht => he t (by omega)) (by omega) (fun b hb => eb b (by omega))).step (fun t ht => by simp [upd, show t ≠ 7 by omega, show t ≠ 8 by omega, show ∀ c, 29 ≤ c → ¬ t = c from fun c h => by omega]) (by simp; omega) (fun b hb => ?_)
        simp only [upds]
        rcases ht with rfl | ⟨o, rfl, oo, oN, on⟩
        · simp [tokWr, upds, upd, show ¬ b = h2'.next + 3 by omega]
        · simp [tokWr, upds, upd, show ¬ b = h2'.next + 3 by omega, show ¬ b = o by omega]
      · rw [hk', hms, hy]; simp [upd, pD]
      · refine .inr ⟨_, rfl, ?_, by omega, by simp⟩
        simp only [upds]
        rcases ht with rfl | ⟨o, rfl, oo, oN, on⟩ <;> simp [tokWr, upds, upd]
      · simp [upd, hk', hwr]
    rw [cl20_1]
    refine .assoc (.then xr20_9 (by simp [o20_9, builtinD, lenD, pD, argA, h1, h8, hb, encM]; rfl) ?_)
    refine .head (by simp [opd, upd]; rfl) (fun _ => ?_) (fun hf => by simp [hlt] at hf)
    refine .seq (.block (.then xr20_11 (by simp [o20_11, builtinD, lenD, pD, argA, h1, h3, h6, h8, hb, encM, hk, o1, o2, ot, hls, hx, rowD, hb0]; rfl) ?_))
    refine .assoc (.then xr20_12 (by simp [o20_12, builtinD, lenD, pD, argA]; rfl) ?_)
    by_cases c1 : 0 ≤ x.1
    · have hxt : x.1.toNat < to.length := by rw [hto]; rcases hxok with rfl | q; · simp at c1
                                             omega
      have hxi : x.1 < (to.length : Int) := by omega
      refine .seq (.cond (v := true) (by simp [opd, upd, c1]) (fun _ => ?_) (fun q => by cases q))
      refine .reg xr20_13 (by simp [o20_13, builtinD, lenD, pD, argA, h4, c1, hxt, hxi]; rfl) ?_
      refine rest _ _ (to[x.1.toNat], x.2) (h.next + 4 + 11) _ (by omega) ?_ ?_ ?_ ?_ ?_ ?_ (fun st hst => hst)
      · simp <;> omega
      · intro t ht; simp [upd, show t ≠ 9 by omega, show ∀ c, 25 ≤ c → ¬ t = c from fun c h => by omega]
      · simp [upd]
      · simp [upd, upds]
      · intro b hb; simp [upd, upds, show ¬ b = h.next + 4 + 11 by omega]
      · simp [moveE, c1, hxt]
    · refine .seq (.cond (v := false) (by simp [opd, upd]; omega) (fun q => by cases q) (fun _ => .skip ?_))
      refine rest _ _ x (h.next + 4 + 11) _ (by omega) ?_ ?_ ?_ ?_ ?_ ?_ (fun st hst => hst)
      · simp <;> omega
      · intro t ht; simp [upd, show t ≠ 9 by omega, show ∀ c, 25 ≤ c → ¬ t = c from fun c h => by omega]
      · simp [upd]
      · simp [upd, upds]
      · intro b hb; simp [upd, upds, show ¬ b = h.next + 4 + 11 by omega]
      · simp [moveE, c1]
  · rintro ⟨A, h⟩ ⟨le, f, ⟨t7, h7, ht⟩, h8⟩
    have h1 := f.h1
    have hb := f.hb
    simp only at h1 hb h7 h8
    rw [cl20_1]
    refine .assoc (.then xr20_9 (by simp [o20_9, builtinD, lenD, pD, argA, h1, h8, hb, encM]; rfl) ?_)
    refine .head (by simp [opd, upd]; rfl) (fun hf => by simp at hf) (fun _ => hQ _ ⟨by omega, ?_, ⟨t7, ?_, ?_⟩, ?_⟩)
    · exact f.step (fun t ht => by simp [upd, show ∀ c, 25 ≤ c → ¬ t = c from fun c h => by omega]) (by simp) (fun _ _ => rfl)
    · simp [upd, h7]
    · rcases ht with q | ⟨o, q1, q2, q3, q4⟩
      · exact .inl q
      · exact .inr ⟨o, q1, q2, q3, by simp only at q4 ⊢; omega⟩
    · simp [upd, h8]
structure I20 (m : M) (l to : List Int) (k : Nat) (st : St) : Prop where
  le : k ≤ l.length
  f : F20 m l to (minRows m to l (l.length - k)) (l.length - k) st.h.next st
theorem spec20 {m : M} (hv : Valid m) : ∃ j, (lev m 0 j).more = [] ∧ j < 2 ^ 30 ∧
    bodyR 20 [encM m] = some (.agg [.int .i64 m.ins, .int .i64 m.outs, .frz ((minRows m (mapN (partM' m m.rows.length) (firstsM m j) (reachM m 0) m.rows.length) (firstsM m j) (firstsM m j).length).map rowD) (tkA (firstsM m j))]) := by
  obtain ⟨j, hm, hj, hb51, hb52⟩ := spec52 hv
  refine ⟨j, hm, hj, ?_⟩
  have r2 := hv.r2
  have call51 : ∀ h, callI E (.fn 51 []) [.agg [.int .i64 m.ins, .int .i64 m.outs, .frz (m.rows.map rowD) .unk]] h = some (.frz ((firstsM m j).map (D.int .i64)) (tkA (firstsM m j)), h, {}) := fun h =>
    call_pure (by decide) (snaps1 (snap_encM _ _ 4 m)) hb51
  have call52 : ∀ h, callI E (.fn 52 []) [.agg [.int .i64 m.ins, .int .i64 m.outs, .frz (m.rows.map rowD) .unk]] h = some (.frz ((mapN (partM' m m.rows.length) (firstsM m j) (reachM m 0) m.rows.length).map (D.int .i64)) .unk, h, {}) := fun h =>
    call_pure (by decide) (snaps1 (snap_encM _ _ 4 m)) hb52
  have hol := ord_ok (lev m 0 j).l (lev m 0 j).is m.rows.length
  have hl : ∀ o ∈ firstsM m j, 0 ≤ o ∧ o < m.rows.length := fun o ho => hol.1 o (firstN_mem _ _ _ (Nat.le_refl _) o ho)
  have hfl : (firstsM m j).length ≤ 64 := by
    have := firstN_len (partM' m m.rows.length) (ordN (lev m 0 j).l (lev m 0 j).is m.rows.length) (ordN (lev m 0 j).l (lev m 0 j).is m.rows.length).length
    have := hol.2
    unfold firstsM; omega
  have hto : (mapN (partM' m m.rows.length) (firstsM m j) (reachM m 0) m.rows.length).length = m.rows.length := mapN_len _ _ _ _
  generalize firstsM m j = l at *
  generalize mapN (partM' m m.rows.length) l (reachM m 0) m.rows.length = to at *
  refine bodyR_V (run20 _ _ (by simp)) ?_
  unfold b20
  refine .then xr20_0 (by simp [o20_0, builtinD, lenD, pD, argA, encM]; rfl) ?_
  refine .then xr20_1 (by simp [o20_1, builtinD, lenD, pD, argA, call51]; rfl) ?_
  refine .then xr20_2 (by simp [o20_2, builtinD, lenD, pD, argA, call52]; rfl) ?_
  refine .then xr20_3 (by simp [o20_3, builtinD, lenD, pD, argA, buildable, buildD, placeD]; rfl) ?_
  refine .assoc (.then xr20_4 (by simp [o20_4, builtinD, lenD, pD, argA]; rfl) ?_)
  refine .seq (.block (V.count (I20 m l to) ?_ ?_ l.length _ ⟨Nat.le_refl _, ⟨?_, ?_, ⟨tkA l, ?_⟩, ?_, ?_, ?_, ?_, ⟨.frz [] .nil, ?_⟩, ⟨.nil, ?_, .inl rfl, by simp⟩, ?_, ?_⟩⟩))
  · rintro k ⟨A, h⟩ ⟨le, f⟩
    have hlt : l.length - (k + 1) < l.length := by omega
    generalize hi : l.length - (k + 1) = i at *
    have hk' : l.length - k = i + 1 := by omega
    have hwr : IntKind.i64.wrap ((i : Int) + 1) = ((i + 1 : Nat) : Int) := by rw [wrap_id] <;> omega
    have hms := minRows_succ m to l i
    have hml : (minRows m to l i).length < 2 ^ 39 := by simp [minRows]; omega
    generalize minRows m to l i = rows at *
    obtain ⟨t3, h3⟩ := f.h3
    have h6 := f.h6
    simp only at h3 h6 f
    rw [cl20_0]
    refine .assoc (.then xr20_5 (by simp [o20_5, builtinD, lenD, pD, argA, h3, h6]; rfl) ?_)
    refine .head (by simp [opd, upd]; rfl) (fun _ => ?_) (fun hf => by simp [hlt] at hf)
    refine .seq (.block (.then xr20_7 (by simp [o20_7, builtinD, lenD, pD, argA]; rfl) ?_))
    refine .assoc (.then xr20_8 (by simp [o20_8, builtinD, lenD, pD, argA]; rfl) ?_)
    refine .seq (.block (loop20b (l := l) (to := to) (rows := rows) (k := i) (N := h.next) hv hlt hl hto ?_ m.ins _ ⟨Nat.le_refl _, ?_, ⟨.nil, ?_, .inl rfl⟩, ?_⟩))
    · rintro ⟨A1, h1⟩ ⟨_, f1, ⟨t7, g7, gt⟩, g8⟩
      rw [Nat.sub_zero] at g7
      obtain ⟨q1, q2, ⟨t3', q3⟩, q4, q5, q6, qb, ⟨z, qz⟩, ⟨tr, qr, qtr, qtn⟩, qN, qn⟩ := f1
      simp only at g7 gt q1 q2 q3 q4 q5 q6 qb qz qr qtr qn
      have htr1 : TokB h1.blk tr 1 h1.next := qtr.mono qn (fun b _ hb => hb)
      have hsn : ∀ blk, snap false blk 9 (.frz ((minRow m to (l.getD i 0).toNat m.ins).map pD) t7) = some (.frz ((minRow m to (l.getD i 0).toNat m.ins).map pD) .unk, []) := fun blk => by
        rw [show (9 : Nat) = 6 + 3 from rfl, snap_pairs]
        rcases gt with rfl | ⟨o, rfl, _, _, _⟩ <;> rfl
      have ha : ∀ s, builtinD E.T (E.pol.mu 20) s h1.blk .append [32, 32] [.frz (rows.map rowD) tr, .frz [.frz ((minRow m to (l.getD i 0).toNat m.ins).map pD) .unk] .exact] = some { v := .frz (rows.map rowD ++ [rowD (minRow m to (l.getD i 0).toNat m.ins)]) (.own s 1), wr := tokWr tr s, rd := tokRd tr } := fun s => by
        have := app32 (mu := E.pol.mu 20) (s := s) (blk := h1.blk) (xs := rows) (tk := tr) (tk' := .exact) (x := minRow m to (l.getD i 0).toNat m.ins) mu20b htr1 hml
        simpa using this
      have hk13 : ∀ s, ¬ 13 = s → upds h1.blk (tokWr tr s) 13 = h1.blk 13 := fun s hs => tokWr_keep htr1 (by rw [qr]; simp) hs
      have hk0 : ∀ s, ¬ 0 = s → upds h1.blk (tokWr tr s) 0 = h1.blk 0 := fun s hs => tokWr_keep htr1 (by rw [qb]; simp) hs
      have hk1 : ∀ s, ¬ 1 = s → upds h1.blk (tokWr tr s) 1 = h1.blk 1 := fun s hs => tokWr_keep htr1 (by rw [qz]; simp) hs
      generalize minRow m to (l.getD i 0).toNat m.ins = row at *
      have h13 : ¬ 13 = h1.next + 4 := by omega
      have e13 := (hk13 (h1.next + 4) h13).trans qr
      show V E 20 62 r20_15 _ _
      refine .reg xr20_15 (by simp [o20_15, pD, argA, q5, qr, g7, ha, hsn, e13, mu20b, mapK, snapDepth, kills]; rfl) ?_
      show V E 20 62 r20_6 _ _
      refine .reg xr20_6 (by simp [o20_6, builtinD, lenD, pD, argA, q6]; rfl) ⟨by omega, ⟨?_, ?_, ⟨t3', ?_⟩, ?_, ?_, ?_, ?_, ⟨z, ?_⟩, ⟨.own (h1.next + 4) 1, ?_, ?_, by simp; omega⟩, ?_, ?_⟩⟩
      · simp [upd, q1]
      · simp [upd, q2]
      · simp [upd, q3]
      · simp [upd, q4]
      · simp [upd, q5]
      · simp [upd, hk', hwr]
      · simpa [upd, upds] using (hk0 (h1.next + 4) (by omega)).trans qb
      · simpa [upd, upds] using (hk1 (h1.next + 4) (by omega)).trans qz
      · rw [hk', hms]; simp [upd, upds]
      · refine .inr ⟨_, rfl, ?_, by simp <;> omega⟩
        have hg := TokB.grow (blk := h1.blk) (tk := tr) (e := 1) (s := h1.next + 4) (nx := h1.next + 5) (by omega)
        rcases hg with hg | ⟨o, hg1, hg2, _⟩
        · cases hg
        · cases hg1
          simpa [upd, upds, show ¬ h1.next + 4 = 13 by omega] using hg2
      · simp <;> omega
      · simp
    · exact f.step (fun t ht => by simp [upd, show t ≠ 7 by omega, show t ≠ 8 by omega, show ∀ c, 19 ≤ c → ¬ t = c from fun c h => by omega]) (by simp only; omega) (fun _ _ => rfl)
    · simp [upd, minRow]
    · simp [upd]
  · rintro ⟨A, h⟩ ⟨le, f⟩
    obtain ⟨q1, q2, ⟨t3', q3⟩, q4, q5, q6, qb, ⟨z, qz⟩, ⟨tr, qr, qtr, qtn⟩, qN, qn⟩ := f
    simp only at q1 q2 q3 q4 q5 q6 qb qz qr qtr qn
    rw [cl20_0]
    refine .assoc (.then xr20_5 (by simp [o20_5, builtinD, lenD, pD, argA, q3, q6]; rfl) ?_)
    refine .head (by simp [opd, upd]; rfl) (fun hf => by simp at hf) (fun _ => ?_)
    refine .then xr20_16 (by simp [o20_16, builtinD, lenD, pD, argA, q2, q5, qr, qz]; rfl) (.ret ⟨_, by simp [resultsD, mapO, resultD, upd, upds, q2, loadD, partD]; rfl, ?_⟩)
    have hg1 : 1 ≤ l.length ∨ l.length = 0 := by omega
    rw [Nat.sub_zero] at qtn
    have htk : tr.fade true = tkA l := by
      rcases qtr with rfl | ⟨o, rfl, _, _⟩
      · have := List.eq_nil_of_length_eq_zero (qtn.1 rfl); subst this; rfl
      · cases l with
        | nil => have := qtn.2 rfl; cases this
        | cons _ _ => rfl
    have hs : ∀ (rows : List (List (Int × Int))) (blk : Nat → Blk), snap true blk snapDepth (.agg [.int .i64 m.ins, .int .i64 m.outs, .frz (rows.map rowD) tr]) = some (.agg [.int .i64 m.ins, .int .i64 m.outs, .frz (rows.map rowD) (tr.fade true)], []) := fun rows blk => by
      show (match mapK (snap true blk 8) [.int .i64 m.ins, .int .i64 m.outs, .frz (rows.map rowD) tr] with | some (ys, k) => some (D.agg ys, k) | none => none) = _
      have : snap true blk 8 (.frz (rows.map rowD) tr) = some (.frz (rows.map rowD) (tr.fade true), []) := by
        show (match mapK (snap false blk 7) (rows.map rowD) with | some (ys, k) => some (D.frz ys (tr.fade true), k) | none => none) = _
        rw [mapK_map rows fun x _ => snap_rowD false blk 4 x]
      simp only [mapK, this]
      rfl
    rw [hs, htk]
    simp
  · simp [upd]
  · simp [upd]
  · simp [upd]
  · simp [upd]
  · simp [upd]
  · simp [upd]
  · simp [upd, upds, encM]
  · simp [upd, upds]
  · simp [upd, upds, minRows]
  · simp
  · simp
end Go.Eng.E3
namespace Go.Eng.E3
open Go Go.Eng
set_option linter.unusedSimpArgs false
set_option linter.unusedVariables false
def Wok (m : M) (w : List Nat) : Prop := ∀ i ∈ w, i < m.ins
theorem edge_ok {m : M} (hv : Valid m) {s i : Nat} (hs : s < m.rows.length) (hi : i < m.ins) : EdgeOk m (edge m s i) := by
  have hl := hv.len _ (List.getElem_mem hs)
  have : edge m s i = (m.rows[s])[i]'(by omega) := by simp [edge, hs, hl, hi]
  rw [this]
  exact hv.ok _ (List.getElem_mem hs) _ (List.getElem_mem _)
theorem nextM_nat (m : M) (s : Nat) (i : Nat) : nextM m (s : Int) i = edge m s i := by
  unfold nextM edge
  rw [if_neg (by omega)]
  rfl
theorem next_neg (m : M) {s : Int} (hs : s < 0) (i : Nat) : nextM m s i = (-1, -1) := by unfold nextM; rw [if_pos hs]
theorem next_ok {m : M} (hv : Valid m) {s : Int} (hs : StOk m s) {i : Nat} (hi : i < m.ins) : EdgeOk m (nextM m s i) := by
  rcases hs with rfl | ⟨h1, h2⟩
  · exact .inl (next_neg m (by omega) i)
  · obtain ⟨n, rfl⟩ := Int.eq_ofNat_of_zero_le h1
    rw [nextM_nat]
    exact edge_ok hv (by omega) hi
theorem EdgeOk.st {m : M} {e : Int × Int} (h : EdgeOk m e) : StOk m e.1 := by
  rcases h with rfl | h
  · exact .inl rfl
  · exact .inr ⟨h.1, h.2.1⟩
theorem EdgeOk.sign {m : M} {e : Int × Int} (h : EdgeOk m e) : e.1 < 0 ↔ e.2 = -1 := by
  rcases h with rfl | ⟨h1, h2, h3, h4⟩
  · simp
  · omega
theorem StOk.neg {m : M} {s : Int} (h : StOk m s) (hs : s < 0) : s = -1 := by rcases h with h | h <;> omega
theorem Wok.cons {m : M} {i : Nat} {w : List Nat} : Wok m (i :: w) ↔ i < m.ins ∧ Wok m w := by
  unfold Wok; simp
theorem Wok.app {m : M} {u v : List Nat} : Wok m (u ++ v) ↔ Wok m u ∧ Wok m v := by
  unfold Wok; simp only [List.mem_append]
  constructor
  · intro h; exact ⟨fun i hi => h i (.inl hi), fun i hi => h i (.inr hi)⟩
  · rintro ⟨h1, h2⟩ i (hi | hi); exact h1 i hi; exact h2 i hi
theorem Wok.nil {m : M} : Wok m [] := fun _ h => by cases h
theorem aftOk {m : M} (hv : Valid m) : ∀ {w : List Nat} {s : Int}, StOk m s → Wok m w → StOk m (aftM m s w)
  | [], _, hs, _ => hs
  | i :: w, s, hs, hw => by
    have := Wok.cons.1 hw
    exact aftOk hv (w := w) (next_ok hv hs this.1).st this.2
theorem aft_neg {m : M} : ∀ (w : List Nat) {s : Int}, s < 0 → aftM m s w < 0
  | [], _, h => h
  | i :: w, s, h => by
    rw [aftM, next_neg m h]
    exact aft_neg w (s := -1) (by decide)
theorem aft_app (m : M) : ∀ (u v : List Nat) (s : Int), aftM m s (u ++ v) = aftM m (aftM m s u) v
  | [], _, _ => rfl
  | i :: u, v, s => aft_app m u v _
theorem run_app (m : M) : ∀ (u v : List Nat) (s : Int), runM m s (u ++ v) = runM m s u ++ runM m (aftM m s u) v
  | [], _, _ => rfl
  | i :: u, v, s => by
    show _ :: runM m _ (u ++ v) = _ :: (runM m _ u ++ _)
    rw [run_app m u v]; rfl
theorem run_len (m : M) : ∀ (w : List Nat) (s : Int), (runM m s w).length = w.length
  | [], _ => rfl
  | i :: w, s => by simp [runM, run_len m w]
theorem run_neg (a b : M) : ∀ (w : List Nat) {s t : Int}, s < 0 → t < 0 → runM a s w = runM b t w
  | [], _, _, _, _ => rfl
  | i :: w, s, t, hs, ht => by
    rw [runM, runM, next_neg a hs, next_neg b ht, run_neg a b w (s := -1) (t := -1) (by decide) (by decide)]
def Eqv (a b : M) (s t : Int) : Prop := ∀ w, Wok a w → runM a s w = runM b t w
theorem Eqv.refl (a : M) (s : Int) : Eqv a a s s := fun _ _ => rfl
theorem Eqv.symm {a b : M} (hi : a.ins = b.ins) {s t : Int} (h : Eqv a b s t) : Eqv b a t s := fun w hw => (h w (by unfold Wok at *; rw [hi]; exact hw)).symm
theorem Eqv.trans {a b c : M} (hi : a.ins = b.ins) {s t u : Int} (h : Eqv a b s t) (h' : Eqv b c t u) : Eqv a c s u := fun w hw => (h w hw).trans (h' w (by unfold Wok at *; rw [← hi]; exact hw))
theorem Eqv.neg (a b : M) {s t : Int} (hs : s < 0) (ht : t < 0) : Eqv a b s t := fun w _ => run_neg a b w hs ht
theorem Eqv.next {a b : M} {s t : Int} (h : Eqv a b s t) {i : Nat} (hi : i < a.ins) : (nextM a s i).2 = (nextM b t i).2 ∧ Eqv a b (nextM a s i).1 (nextM b t i).1 := by
  constructor
  · have := h [i] (Wok.cons.2 ⟨hi, Wok.nil⟩)
    simp only [runM] at this
    exact (List.cons.inj this).1
  · intro w hw
    have := h (i :: w) (Wok.cons.2 ⟨hi, hw⟩)
    simp only [runM] at this
    exact (List.cons.inj this).2
theorem Eqv.aft {a b : M} : ∀ {w : List Nat} {s t : Int}, Eqv a b s t → Wok a w → Eqv a b (aftM a s w) (aftM b t w)
  | [], _, _, h, _ => h
  | i :: w, s, t, h, hw => Eqv.aft (w := w) (h.next (Wok.cons.1 hw).1).2 (Wok.cons.1 hw).2
theorem Eqv.sign1 {a b : M} (ha : Valid a) (hb : Valid b) (hi : a.ins = b.ins) {s t : Int} (hs : StOk a s) (ht : StOk b t) (h : Eqv a b s t) {i : Nat} (hw : i < a.ins) : (nextM a s i).1 < 0 ↔ (nextM b t i).1 < 0 := by
  have h1 := (next_ok ha hs hw).sign
  have h2 := (next_ok hb ht (by omega : i < b.ins)).sign
  rw [h1, h2, (h.next hw).1]
theorem Eqv.sign {a b : M} (ha : Valid a) (hb : Valid b) (hi : a.ins = b.ins) : ∀ {w : List Nat} {s t : Int}, StOk a s → StOk b t → Eqv a b s t → (s < 0 ↔ t < 0) → Wok a w → (aftM a s w < 0 ↔ aftM b t w < 0)
  | [], _, _, _, _, _, hs, _ => hs
  | i :: w, s, t, hs, ht, h, hst, hw => by
    have hw' := Wok.cons.1 hw
    exact Eqv.sign ha hb hi (w := w) (next_ok ha hs hw'.1).st (next_ok hb ht (by omega)).st (h.next hw'.1).2 (h.sign1 ha hb hi hs ht hw'.1) hw'.2
theorem apartN_iff {m : M} {mk : List (List Bool)} {s t : Nat} : ∀ (k i : Nat), apartN m mk s t k i = true ↔ ∃ j, i ≤ j ∧ j < i + k ∧ apartAt m mk s t j = true
  | 0, i => by simp [apartN]; intro j h1 h2; omega
  | k + 1, i => by
    rw [apartN, Bool.or_eq_true, apartN_iff k (i + 1)]
    constructor
    · rintro (h | ⟨j, h1, h2, h3⟩)
      · exact ⟨i, by omega, by omega, h⟩
      · exact ⟨j, by omega, by omega, h3⟩
    · rintro ⟨j, h1, h2, h3⟩
      rcases Nat.lt_or_ge i j with h | h
      · exact .inr ⟨j, by omega, by omega, h3⟩
      · have : j = i := by omega
        subst this; exact .inl h3
def Diff (m : M) (k : Nat) (s t : Int) : Prop := ∃ w, w.length ≤ k ∧ Wok m w ∧ runM m s w ≠ runM m t w
theorem Diff.mono {m : M} {k k' : Nat} {s t : Int} (h : Diff m k s t) (hk : k ≤ k') : Diff m k' s t := by
  obtain ⟨w, h1, h2, h3⟩ := h; exact ⟨w, by omega, h2, h3⟩
theorem diff_zero {m : M} {s t : Int} : ¬ Diff m 0 s t := by
  rintro ⟨w, h1, _, h3⟩
  have : w = [] := by cases w with | nil => rfl | cons _ _ => simp at h1
  subst this; exact h3 rfl
theorem diff_succ {m : M} (hv : Valid m) {k : Nat} {s t : Nat} (hs : s < m.rows.length) (ht : t < m.rows.length) :
    Diff m (k + 1) s t ↔ ∃ i, i < m.ins ∧ ((edge m s i).2 ≠ (edge m t i).2 ∨ (0 ≤ (edge m s i).1 ∧ 0 ≤ (edge m t i).1 ∧ Diff m k (edge m s i).1 (edge m t i).1)) := by
  constructor
  · rintro ⟨w, h1, h2, h3⟩
    cases w with
    | nil => exact absurd rfl h3
    | cons i w =>
      have hw := Wok.cons.1 h2
      refine ⟨i, hw.1, ?_⟩
      rw [runM, runM, nextM_nat, nextM_nat] at h3
      by_cases ho : (edge m s i).2 = (edge m t i).2
      · have e1 := edge_ok hv hs hw.1
        have e2 := edge_ok hv ht hw.1
        rw [ho] at h3
        have h4 : runM m (edge m s i).1 w ≠ runM m (edge m t i).1 w := fun e => h3 (by rw [e])
        by_cases hn : (edge m s i).1 < 0
        · have : (edge m t i).1 < 0 := by rw [e2.sign, ← ho, ← e1.sign]; exact hn
          exact absurd (run_neg m m w hn this) h4
        · have : ¬ (edge m t i).1 < 0 := by rw [e2.sign, ← ho, ← e1.sign]; exact hn
          exact .inr ⟨by omega, by omega, w, by simp at h1; omega, hw.2, h4⟩
      · exact .inl ho
  · rintro ⟨i, hi, h | ⟨_, _, w, h1, h2, h3⟩⟩
    · refine ⟨[i], by simp, Wok.cons.2 ⟨hi, Wok.nil⟩, fun e => h ?_⟩
      simp only [runM, nextM_nat] at e
      exact (List.cons.inj e).1
    · refine ⟨i :: w, by simp; omega, Wok.cons.2 ⟨hi, h2⟩, fun e => h3 ?_⟩
      simp only [runM, nextM_nat] at e
      exact (List.cons.inj e).2
theorem mget_step {m : M} {mk : List (List Bool)} {s t : Nat} (hs : s < m.rows.length) (ht : t < m.rows.length) : mget (stepM m mk) s t = cellM m mk s t := by
  simp [mget, stepM, hs, ht]
theorem mark_iff {m : M} (hv : Valid m) : ∀ (k : Nat) {s t : Nat}, s < m.rows.length → t < m.rows.length → (mget (markN m k) s t = true ↔ Diff m k s t)
  | 0, s, t, hs, ht => by
    constructor
    · intro h; simp [markN, zeroM, mget, hs, ht] at h
    · intro h; exact absurd h diff_zero
  | k + 1, s, t, hs, ht => by
    have ih := fun {s t} => mark_iff hv k (s := s) (t := t)
    rw [markN, mget_step hs ht, cellM, Bool.or_eq_true, ih hs ht, apartN_iff, diff_succ hv hs ht]
    have key : ∀ j, j < m.ins → (apartAt m (markN m k) s t j = true ↔ ((edge m s j).2 ≠ (edge m t j).2 ∨ (0 ≤ (edge m s j).1 ∧ 0 ≤ (edge m t j).1 ∧ Diff m k (edge m s j).1 (edge m t j).1))) := by
      intro j hj
      have e1 := (edge_ok hv hs hj).st
      have e2 := (edge_ok hv ht hj).st
      simp only [apartAt, Bool.or_eq_true, Bool.not_eq_true', decide_eq_false_iff_not, Bool.and_eq_true, decide_eq_true_eq]
      constructor
      · rintro (h | ⟨h1, h2, h3⟩)
        · exact .inl h
        · refine .inr ⟨h1, h2, ?_⟩
          have l1 : (edge m s j).1.toNat < m.rows.length := by rcases e1 with e | e <;> omega
          have l2 : (edge m t j).1.toNat < m.rows.length := by rcases e2 with e | e <;> omega
          have := (ih l1 l2).1 h3
          rwa [Int.toNat_of_nonneg h1, Int.toNat_of_nonneg h2] at this
      · rintro (h | ⟨h1, h2, h3⟩)
        · exact .inl h
        · refine .inr ⟨h1, h2, ?_⟩
          have l1 : (edge m s j).1.toNat < m.rows.length := by rcases e1 with e | e <;> omega
          have l2 : (edge m t j).1.toNat < m.rows.length := by rcases e2 with e | e <;> omega
          refine (ih l1 l2).2 ?_
          rwa [Int.toNat_of_nonneg h1, Int.toNat_of_nonneg h2]
    constructor
    · rintro (h | ⟨j, _, h2, h3⟩)
      · exact (diff_succ hv hs ht).1 (h.mono (Nat.le_succ k))
      · exact ⟨j, by omega, (key j (by omega)).1 h3⟩
    · rintro ⟨j, hj, h⟩
      exact .inr ⟨j, by omega, by omega, (key j hj).2 h⟩
theorem filter_lt {α : Type} {p q : α → Bool} : ∀ {l : List α}, (∀ x ∈ l, p x = true → q x = true) → ∀ x ∈ l, p x = false → q x = true → (l.filter p).length < (l.filter q).length
  | [], _, _, h, _, _ => by cases h
  | y :: l, h, x, hx, hp, hq => by
    have le : ∀ {l : List α}, (∀ x ∈ l, p x = true → q x = true) → (l.filter p).length ≤ (l.filter q).length := by
      intro l
      induction l with
      | nil => intro _; simp
      | cons z l ih =>
        intro h
        have := ih fun x hx => h x (List.mem_cons_of_mem _ hx)
        have hz := h z (List.mem_cons_self ..)
        rw [List.filter_cons, List.filter_cons]
        cases hpz : p z with
        | true => rw [hz hpz]; simp; omega
        | false => cases q z <;> simp <;> omega
    have h' : ∀ x ∈ l, p x = true → q x = true := fun x hx => h x (List.mem_cons_of_mem _ hx)
    rw [List.filter_cons, List.filter_cons]
    rcases List.mem_cons.1 hx with rfl | hx
    · rw [hp, hq]
      have := le h'
      simp; omega
    · have ih := filter_lt h' x hx hp hq
      have hy := h y (List.mem_cons_self ..)
      cases hpy : p y with
      | true => rw [hy hpy]; simp; omega
      | false => cases q y <;> simp <;> omega
def leastB (m : M) (k s : Nat) : Bool := (List.range s).all fun t => mget (markN m k) s t
def leasts (m : M) (k : Nat) : List Nat := (List.range m.rows.length).filter (leastB m k)
theorem leastB_iff {m : M} (hv : Valid m) {k s : Nat} (hs : s < m.rows.length) : leastB m k s = true ↔ ∀ t, t < s → Diff m k (s : Nat) (t : Nat) := by
  unfold leastB
  rw [List.all_eq_true]
  constructor
  · intro h t ht; exact (mark_iff hv k hs (by omega)).1 (h t (List.mem_range.2 ht))
  · intro h t ht; have := List.mem_range.1 ht; exact (mark_iff hv k hs (by omega)).2 (h t this)
theorem Diff.symm {m : M} {k : Nat} {s t : Int} (h : Diff m k s t) : Diff m k t s := by
  obtain ⟨w, h1, h2, h3⟩ := h; exact ⟨w, h1, h2, fun e => h3 e.symm⟩
theorem Diff.split {m : M} {k : Nat} {s t : Int} (u : Int) (h : Diff m k s t) : Diff m k s u ∨ Diff m k u t := by
  obtain ⟨w, h1, h2, h3⟩ := h
  by_cases e : runM m s w = runM m u w
  · exact .inr ⟨w, h1, h2, fun e' => h3 (e.trans e')⟩
  · exact .inl ⟨w, h1, h2, e⟩
theorem exists_least {P : Nat → Prop} {n : Nat} (h : P n) : ∃ k, k ≤ n ∧ P k ∧ ∀ j, j < k → ¬ P j := by
  induction n using Nat.strongRecOn with
  | ind n ih =>
    by_cases hex : ∃ j, j < n ∧ P j
    · obtain ⟨j, hj, hp⟩ := hex
      obtain ⟨k, h1, h2, h3⟩ := ih j hj hp
      exact ⟨k, by omega, h2, h3⟩
    · exact ⟨n, Nat.le_refl _, h, fun j hj hp => hex ⟨j, hj, hp⟩⟩
theorem leasts_grow {m : M} (hv : Valid m) {k s t : Nat} (hs : s < m.rows.length) (ht : t < m.rows.length) (h0 : ¬ Diff m k (s : Nat) (t : Nat)) (h1 : Diff m (k + 1) (s : Nat) (t : Nat)) : (leasts m k).length < (leasts m (k + 1)).length := by
  obtain ⟨u, hu, hus, hul⟩ := exists_least (P := fun u => ¬ Diff m k (u : Nat) (s : Nat)) (n := s) (fun ⟨w, _, _, h⟩ => h rfl)
  have hmono : ∀ x ∈ List.range m.rows.length, leastB m k x = true → leastB m (k + 1) x = true := fun x hx h => by
    have hx' := List.mem_range.1 hx
    rw [leastB_iff hv hx'] at h ⊢
    exact fun t ht => (h t ht).mono (Nat.le_succ k)
  have main : ∀ v : Nat, v < m.rows.length → ¬ Diff m k (v : Nat) (s : Nat) → Diff m (k + 1) (u : Nat) (v : Nat) → (leasts m k).length < (leasts m (k + 1)).length := by
    intro v hv' hvs hd
    obtain ⟨x, hx, hxv, hxl⟩ := exists_least (P := fun x => ¬ Diff m (k + 1) (x : Nat) (v : Nat)) (n := v) (fun ⟨w, _, _, h⟩ => h rfl)
    have hxn : x < m.rows.length := by omega
    have hxs : ¬ Diff m k (x : Nat) (s : Nat) := fun h => by
      rcases h.split (v : Nat) with h | h
      · exact hxv (h.mono (Nat.le_succ k))
      · exact hvs h
    have hux : u ≠ x := fun e => by subst e; exact hxv hd
    have hux' : u < x := by
      rcases Nat.lt_or_ge x u with h | h
      · exact absurd hxs (hul x h)
      · omega
    refine filter_lt hmono x (List.mem_range.2 hxn) ?_ ?_
    · rw [Bool.eq_false_iff]
      intro h
      rw [leastB_iff hv hxn] at h
      rcases (h u hux').split (s : Nat) with h | h
      · exact hxs h
      · exact hus h.symm
    · rw [leastB_iff hv hxn]
      intro y hy
      have := hxl y hy
      have hy' : Diff m (k + 1) (y : Nat) (v : Nat) := Classical.not_not.1 this
      rcases hy'.split (x : Nat) with h | h
      · exact h.symm
      · exact absurd h hxv
  have hts : ¬ Diff m k (t : Nat) (s : Nat) := fun h => h0 h.symm
  rcases h1.split (u : Nat) with h | h
  · exact main s hs (fun ⟨w, _, _, h⟩ => h rfl) h.symm
  · exact main t ht hts h
theorem stable_at {m : M} (hv : Valid m) : ∃ j, j ≤ m.rows.length ∧ ∀ s t : Nat, s < m.rows.length → t < m.rows.length → Diff m (j + 1) (s : Nat) (t : Nat) → Diff m j (s : Nat) (t : Nat) := by
  have key : ∀ k, (∃ j, j < k ∧ ∀ s t : Nat, s < m.rows.length → t < m.rows.length → Diff m (j + 1) (s : Nat) (t : Nat) → Diff m j (s : Nat) (t : Nat)) ∨ k + 1 ≤ (leasts m k).length := by
    intro k
    induction k with
    | zero =>
      right
      have r1 := hv.r1
      have : (0 : Nat) ∈ leasts m 0 := by
        unfold leasts
        rw [List.mem_filter]
        exact ⟨List.mem_range.2 (by omega), by simp [leastB]⟩
      have := List.length_pos_of_mem this
      omega
    | succ k ih =>
      rcases ih with ⟨j, h1, h2⟩ | h
      · exact .inl ⟨j, by omega, h2⟩
      · by_cases hst : ∀ s t : Nat, s < m.rows.length → t < m.rows.length → Diff m (k + 1) (s : Nat) (t : Nat) → Diff m k (s : Nat) (t : Nat)
        · exact .inl ⟨k, by omega, hst⟩
        · right
          have : ∃ s t : Nat, s < m.rows.length ∧ t < m.rows.length ∧ Diff m (k + 1) (s : Nat) (t : Nat) ∧ ¬ Diff m k (s : Nat) (t : Nat) := by
            apply Classical.byContradiction
            intro hne
            exact hst fun s t hs ht hd => Classical.byContradiction fun hn => hne ⟨s, t, hs, ht, hd, hn⟩
          obtain ⟨s, t, hs, ht, hd, hn⟩ := this
          have := leasts_grow hv hs ht hn hd
          omega
  rcases key (m.rows.length) with ⟨j, h1, h2⟩ | h
  · exact ⟨j, by omega, h2⟩
  · have : (leasts m m.rows.length).length ≤ (List.range m.rows.length).length := List.length_filter_le ..
    simp at this
    omega
theorem diff_all {m : M} (hv : Valid m) {k : Nat} {s t : Nat} (hs : s < m.rows.length) (ht : t < m.rows.length) (h : Diff m k (s : Nat) (t : Nat)) : Diff m m.rows.length (s : Nat) (t : Nat) := by
  obtain ⟨j, hj, hst⟩ := stable_at hv
  have key : ∀ d, ∀ s t : Nat, s < m.rows.length → t < m.rows.length → Diff m (j + d) (s : Nat) (t : Nat) → Diff m j (s : Nat) (t : Nat) := by
    intro d
    induction d with
    | zero => intro s t _ _ h; exact h
    | succ d ih =>
      intro s t hs ht h
      rw [show j + (d + 1) = (j + d) + 1 from rfl, diff_succ hv hs ht] at h
      refine hst s t hs ht ((diff_succ hv hs ht).2 ?_)
      obtain ⟨i, hi, h⟩ := h
      refine ⟨i, hi, h.imp id ?_⟩
      rintro ⟨h1, h2, h3⟩
      refine ⟨h1, h2, ?_⟩
      have e1 := (edge_ok hv hs hi).st
      have e2 := (edge_ok hv ht hi).st
      have := ih (edge m s i).1.toNat (edge m t i).1.toNat (by rcases e1 with e | e <;> omega) (by rcases e2 with e | e <;> omega)
      rw [Int.toNat_of_nonneg h1, Int.toNat_of_nonneg h2] at this
      exact this h3
  exact ((key k s t hs ht (h.mono (by omega))).mono hj)
theorem unmarked_iff {m : M} (hv : Valid m) {s t : Nat} (hs : s < m.rows.length) (ht : t < m.rows.length) : mget (markN m m.rows.length) s t = false ↔ Eqv m m s t := by
  rw [Bool.eq_false_iff, ne_eq, mark_iff hv _ hs ht]
  constructor
  · intro h w hw
    exact Classical.byContradiction fun hne => h (diff_all hv hs ht ⟨w, Nat.le_refl _, hw, hne⟩)
  · rintro h ⟨w, _, hw, hne⟩
    exact hne (h w hw)
end Go.Eng.E3
namespace Go.Eng.E3
open Go Go.Eng Go.Proofs
set_option maxRecDepth 100000
attribute [local simp] execR runOps stepOp wantedD evalOp opd upd St.put Eff.apply upds looseOk FP.free FP.idle apart Eff.fp ofVal loadD storeD partD setPart indexAddrD isShift arith unD callOp mapO D.okc pickD buildable buildD placeD convD
set_option linter.unusedSimpArgs false
set_option linter.unusedVariables false
set_option maxHeartbeats 4000000
theorem HJ.frame {A : Nat → D} {c4 c5 c6 L C : Nat} {ps ms : List (Int × Int)} {N N' : Nat} {h h' : H} (hj : HJ A c4 c5 c6 L C ps ms N h) (e : ∀ b, b < N → h'.blk b = h.blk b) (hn : N ≤ N') (hn' : N' ≤ h'.next) : HJ A c4 c5 c6 L C ps ms N' h' := by
  obtain ⟨a4, a5, a6, hL, h2, h3, ⟨pb, ex, p1, p2, p3⟩, hm, b4, b5, bl, x45, x46, x56, lc, cn, hnn⟩ := hj
  exact ⟨a4, a5, a6, (e _ (by omega)).trans hL, (e _ (by omega)).trans h2, (e _ (by omega)).trans h3, ⟨pb, ex, (e _ (by omega)).trans p1, (e _ p3).trans p2, by omega⟩, (e _ cn).trans hm, b4, b5, bl, x45, x46, x56, lc, by omega, hn'⟩
theorem HJ.frameT {A : Nat → D} {c4 c5 c6 L C : Nat} {ps ms : List (Int × Int)} {N N' : Nat} {h h' : H} (hj : HJ A c4 c5 c6 L C ps ms N h) (e : ∀ b, b < N → h.blk b ≠ .tok → h'.blk b = h.blk b) (hn : N ≤ N') (hn' : N' ≤ h'.next) : HJ A c4 c5 c6 L C ps ms N' h' := by
  obtain ⟨a4, a5, a6, hL, h2, h3, ⟨pb, ex, p1, p2, p3⟩, hm, b4, b5, bl, x45, x46, x56, lc, cn, hnn⟩ := hj
  exact ⟨a4, a5, a6, (e _ (by omega) (by rw [hL]; nofun)).trans hL, (e _ (by omega) (by rw [h2]; nofun)).trans h2, (e _ (by omega) (by rw [h3]; nofun)).trans h3, ⟨pb, ex, (e _ (by omega) (by rw [p1]; nofun)).trans p1, (e _ p3 (by rw [p2]; nofun)).trans p2, by omega⟩, (e _ cn (by rw [hm]; nofun)).trans hm, b4, b5, bl, x45, x46, x56, lc, by omega, hn'⟩
theorem HJ.map {A : Nat → D} {c4 c5 c6 L C : Nat} {ps ms ms' : List (Int × Int)} {N : Nat} {h h' : H} (hj : HJ A c4 c5 c6 L C ps ms N h) (e : ∀ b, b < N → b ≠ C → h'.blk b = h.blk b) (hm' : h'.blk C = .map (ms'.map fun p => (pD p, .bool true))) (hn' : N ≤ h'.next) : HJ A c4 c5 c6 L C ps ms' N h' := by
  obtain ⟨a4, a5, a6, hL, h2, h3, ⟨pb, ex, p1, p2, p3⟩, hm, b4, b5, bl, x45, x46, x56, lc, cn, hnn⟩ := hj
  have hpc : pb ≠ C := fun e => by rw [e, hm] at p2; cases p2
  exact ⟨a4, a5, a6, (e _ (by omega) (by omega)).trans hL, (e _ (by omega) (by omega)).trans h2, (e _ (by omega) (by omega)).trans h3, ⟨pb, ex, (e _ (by omega) (by omega)).trans p1, (e _ p3 hpc).trans p2, by omega⟩, hm', b4, b5, bl, x45, x46, x56, lc, by omega, hn'⟩
theorem findP (q : Int × Int) : ∀ (ms : List (Int × Int)) (i : Nat), findD E.T 105 (.agg [.int .i64 q.1, .int .i64 q.2]) (ms.map fun p => (pD p, .bool true)) i = some (if q ∈ ms then (findD E.T 105 (.agg [.int .i64 q.1, .int .i64 q.2]) (ms.map fun p => (pD p, .bool true)) i).bind id else none) ∧ (q ∈ ms → ∃ j, findD E.T 105 (.agg [.int .i64 q.1, .int .i64 q.2]) (ms.map fun p => (pD p, .bool true)) i = some (some (j, .bool true)))
  | [], i => ⟨rfl, fun h => by cases h⟩
  | p :: ms, i => by
    obtain ⟨h1, h2⟩ := findP q ms (i + 1)
    rw [List.map_cons, findD]
    simp only [pD, eqD105]
    by_cases h : q.1 = p.1 ∧ q.2 = p.2
    · have : q = p := Prod.ext h.1 h.2
      rw [decide_eq_true h]
      subst this
      exact ⟨by simp, fun _ => ⟨i, rfl⟩⟩
    · have : q ≠ p := fun e => h (by rw [e]; exact ⟨rfl, rfl⟩)
      rw [decide_eq_false h]
      simp only [List.mem_cons, this, false_or]
      exact ⟨h1, h2⟩
theorem find_in {q : Int × Int} {ms : List (Int × Int)} (h : q ∈ ms) : ∃ j, findD E.T 105 (.agg [.int .i64 q.1, .int .i64 q.2]) (ms.map fun p => (pD p, .bool true)) 0 = some (some (j, .bool true)) := (findP q ms 0).2 h
theorem find_out {q : Int × Int} {ms : List (Int × Int)} (h : q ∉ ms) : findD E.T 105 (.agg [.int .i64 q.1, .int .i64 q.2]) (ms.map fun p => (pD p, .bool true)) 0 = some none := by
  rw [(findP q ms 0).1, if_neg h]
theorem keyP (q : Int × Int) : keyOk E.T 105 (.agg [.int .i64 q.1, .int .i64 q.2]) = true := by
  unfold keyOk; rw [eqD105]; simp
theorem lookP {blk : Nat → Blk} {C : Nat} {ms : List (Int × Int)} (hb : blk C = .map (ms.map fun p => (pD p, .bool true))) (q : Int × Int) : lookupD E.T blk 111 (.mp C) (.agg [.int .i64 q.1, .int .i64 q.2]) false = some { v := .bool (decide (q ∈ ms)), rd := [C] } := by
  unfold lookupD
  rw [map_111]
  simp only [keyP, if_true, hb]
  by_cases h : q ∈ ms
  · obtain ⟨j, hj⟩ := find_in h
    rw [hj, decide_eq_true h]; rfl
  · rw [find_out h, decide_eq_false h]
    simp
theorem updP {blk : Nat → Blk} {C : Nat} {ms : List (Int × Int)} (hb : blk C = .map (ms.map fun p => (pD p, .bool true))) {q : Int × Int} (h : q ∉ ms) : updateD E.T blk 111 (.mp C) (.agg [.int .i64 q.1, .int .i64 q.2]) (.bool true) = some { v := .undef, wr := [(C, .map ((ms ++ [q]).map fun p => (pD p, .bool true)))], rd := [C] } := by
  unfold updateD
  rw [map_111]
  simp only [keyP, if_true, hb, find_out h]
  simp [pD]
def addA (l : List Arr) (a i : Nat) (x y : Int × Int) : List Arr := if x.1 ≠ -1 ∧ (x.1, y.1) ∉ l.map (·.1) then l ++ [((x.1, y.1), ((a : Nat) : Int), i)] else l
def stepP (a b : M) (at_ : Nat) (l : List Arr) (i : Nat) : Option (List Arr) :=
  if (edge a (l.getD at_ arr0).1.1.toNat i).2 = (edge b (l.getD at_ arr0).1.2.toNat i).2 then some (addA l at_ i (edge a (l.getD at_ arr0).1.1.toNat i) (edge b (l.getD at_ arr0).1.2.toNat i)) else none
def innP (a b : M) (at_ : Nat) : Nat → List Arr → Sum (List Arr) (List Arr × Nat × Nat)
  | 0, l => .inl l
  | k + 1, l => match stepP a b at_ l (a.ins - (k + 1)) with
    | some l' => innP a b at_ k l'
    | none => .inr (l, at_, a.ins - (k + 1))
def outP (a b : M) : Nat → Nat → List Arr → Sum (List Arr) (List Arr × Nat × Nat)
  | 0, _, l => .inl l
  | k + 1, at_, l => if at_ < l.length then match innP a b at_ a.ins l with
      | .inl l' => outP a b k (at_ + 1) l'
      | .inr r => .inr r
    else .inl l
theorem nodup_lt : ∀ (n : Nat) {l : List Nat}, l.Nodup → (∀ x ∈ l, x < n) → l.length ≤ n
  | 0, l, _, h => by cases l with
    | nil => simp
    | cons x l => have := h x (List.mem_cons_self ..); omega
  | n + 1, l, hn, h => by
    have h1 := nodup_lt n (hn.erase n) fun x hx => by
      have := (List.Nodup.mem_erase_iff hn).1 hx
      have := h x this.2
      omega
    have := List.length_erase (a := n) (l := l)
    split at this <;> omega
structure Good (a b : M) (l : List Arr) : Prop where
  ok : ArrOk l
  rng : ∀ r ∈ l, 0 ≤ r.1.1 ∧ r.1.1 < a.rows.length ∧ 0 ≤ r.1.2 ∧ r.1.2 < b.rows.length
  nd : (l.map (·.1)).Nodup
theorem Good.len {a b : M} {l : List Arr} (g : Good a b l) : l.length ≤ a.rows.length * b.rows.length := by
  have h1 : ((l.map (·.1)).map fun p => p.1.toNat * b.rows.length + p.2.toNat).Nodup := by
    rw [List.nodup_iff_pairwise_ne, List.pairwise_map]
    have := List.nodup_iff_pairwise_ne.1 g.nd
    refine List.Pairwise.imp_of_mem ?_ this
    intro p q hp hq hne e
    obtain ⟨r, hr, rfl⟩ := List.mem_map.1 hp
    obtain ⟨r', hr', rfl⟩ := List.mem_map.1 hq
    obtain ⟨u1, u2, u3, u4⟩ := g.rng r hr
    obtain ⟨v1, v2, v3, v4⟩ := g.rng r' hr'
    have hb : 0 < b.rows.length := by omega
    have e1 : r.1.1.toNat = r'.1.1.toNat := by
      have h1 : (r.1.1.toNat * b.rows.length + r.1.2.toNat) / b.rows.length = r.1.1.toNat := by
        rw [Nat.mul_comm, Nat.mul_add_div hb, Nat.div_eq_of_lt (by omega), Nat.add_zero]
      have h2 : (r'.1.1.toNat * b.rows.length + r'.1.2.toNat) / b.rows.length = r'.1.1.toNat := by
        rw [Nat.mul_comm, Nat.mul_add_div hb, Nat.div_eq_of_lt (by omega), Nat.add_zero]
      rw [← h1, ← h2, e]
    rw [e1] at e
    have e2 : r.1.2.toNat = r'.1.2.toNat := by omega
    exact hne (Prod.ext (by omega) (by omega))
  have h2 := nodup_lt (a.rows.length * b.rows.length) h1 (by
    intro x hx
    obtain ⟨p, hp, rfl⟩ := List.mem_map.1 hx
    obtain ⟨r, hr, rfl⟩ := List.mem_map.1 hp
    obtain ⟨u1, u2, u3, u4⟩ := g.rng r hr
    have : (r.1.1.toNat + 1) * b.rows.length ≤ a.rows.length * b.rows.length := Nat.mul_le_mul_right _ (by omega)
    rw [Nat.add_mul] at this
    omega)
  simpa using h2
theorem Good.add {a b : M} {l : List Arr} (g : Good a b l) {at_ i : Nat} {x y : Int × Int} (ha : at_ < l.length) (hx : EdgeOk a x) (hy : EdgeOk b y) (he : x.2 = y.2) : Good a b (addA l at_ i x y) := by
  unfold addA
  split
  · rename_i hc
    have hx1 : 0 ≤ x.1 ∧ x.1 < a.rows.length ∧ x.2 ≠ -1 := by
      rcases hx with rfl | h
      · exact absurd rfl hc.1
      · exact ⟨h.1, h.2.1, by omega⟩
    have hy1 : 0 ≤ y.1 ∧ y.1 < b.rows.length := by
      rcases hy with rfl | h
      · exact absurd he hx1.2.2
      · exact ⟨h.1, h.2.1⟩
    refine ⟨fun k hk => ?_, fun r hr => ?_, ?_⟩
    · rcases Nat.lt_or_ge k l.length with h | h
      · rw [show (l ++ [((x.1, y.1), ((at_ : Nat) : Int), i)]).getD k arr0 = l.getD k arr0 by simp [List.getElem?_append_left h]]
        exact g.ok k h
      · have : k = l.length := by simp at hk; omega
        subst this
        right
        simp; omega
    · rcases List.mem_append.1 hr with hr | hr
      · exact g.rng r hr
      · simp at hr; subst hr; exact ⟨hx1.1, hx1.2.1, hy1.1, hy1.2⟩
    · rw [List.map_append, List.nodup_append]
      refine ⟨g.nd, by simp, fun p hp q hq e => ?_⟩
      simp at hq; subst hq; subst e; exact hc.2 hp
  · exact g
theorem addA_len (l : List Arr) (a i : Nat) (x y : Int × Int) : l.length ≤ (addA l a i x y).length := by
  unfold addA; split <;> simp
theorem addA_at {l : List Arr} {a i k : Nat} {x y : Int × Int} (h : k < l.length) : (addA l a i x y).getD k arr0 = l.getD k arr0 := by
  unfold addA; split
  · simp [List.getElem?_append_left h]
  · rfl
def TokX (blk : Nat → Blk) (tk : Tok) (e nx : Nat) : Prop := tk = .exact ∨ ∃ o, tk = .own o e ∧ blk o = .tok ∧ o < nx
theorem TokX.mono {blk blk' : Nat → Blk} {tk : Tok} {e nx nx' : Nat} (h : TokX blk tk e nx) (hn : nx ≤ nx') (hb : ∀ b, b < nx → blk b = .tok → blk' b = .tok) : TokX blk' tk e nx' := by
  rcases h with h | ⟨o, h1, h2, h3⟩
  · exact .inl h
  · exact .inr ⟨o, h1, hb o h3 h2, by omega⟩
theorem app140 {mu : TypeId → Bool} {s : Nat} {blk : Nat → Blk} {xs : List Arr} {tk tk' : Tok} {x : Arr} {nx : Nat} (hmu : mu 140 = false) (ht : TokX blk tk 4 nx) (hl : xs.length < 2 ^ 38) :
    builtinD E.T mu s blk .append [140, 140] [.frz (xs.map arrD) tk, .frz [.agg [.int .i64 x.1.1, .int .i64 x.1.2, .int .i64 x.2.1, .int .i64 x.2.2]] tk'] = some { v := .frz ((xs ++ [x]).map arrD) (.own s 4), wr := tokWr tk s, rd := tokRd tk } := by
  have hall : ∀ z ∈ xs.map arrD ++ [arrD x], z.cells.length = 4 := fun z hz => by
    rcases List.mem_append.1 hz with hz | hz
    · obtain ⟨y, _, rfl⟩ := List.mem_map.1 hz; rfl
    · simp at hz; subst hz; rfl
  have hle : ((xs.map arrD).length + [arrD x].length) * 32 * 2 ≤ maxAppend := by
    simp only [List.length_map, List.length_singleton, maxAppend]; omega
  have hsn : mapK (snap false blk snapDepth) [arrD x] = some ([arrD x], []) := rfl
  rw [show D.agg [.int .i64 x.1.1, .int .i64 x.1.2, .int .i64 x.2.1, .int .i64 x.2.2] = arrD x from rfl]
  rcases ht with rfl | ⟨o, rfl, h2, h3⟩
  · simp only [builtinD, ok_140, desc_140, if_true, appendD, elem_140, elemsD, hmu, Bool.false_eq_true, if_false, hsn, size_166, bytes_166, kills, List.map_nil, List.append_nil, List.nil_append]
    rw [if_pos ⟨hall, hle, by decide, by decide⟩]
    simp [tokWr, tokRd]
  · simp only [builtinD, ok_140, desc_140, if_true, appendD, elem_140, elemsD, hmu, Bool.false_eq_true, if_false, hsn, size_166, bytes_166, kills, List.map_nil, List.append_nil, List.nil_append]
    rw [if_pos ⟨hall, hle, by decide, by decide⟩]
    simp only [if_true, h2]
    simp [tokWr, tokRd]
structure F109 (a b : M) (As : Nat → D) (c4 c5 c6 L C : Nat) (l : List Arr) (at_ : Nat) (st : St) : Prop where
  h0 : st.A 0 = .yld L
  h1 : st.A 1 = .iref (encM a)
  h2 : st.A 2 = .iref (encM b)
  h4 : st.A 4 = .mp C
  h5 : ∃ tk, st.A 5 = .frz (l.map arrD) tk ∧ TokX st.h.blk tk 4 st.h.next
  h6 : st.A 6 = .int .i64 at_
  hj : HJ As c4 c5 c6 L C (l.map (·.1)) (l.map (·.1)) st.h.next st.h
  g : Good a b l
def Res109 (As : Nat → D) (c4 c5 c6 L C : Nat) (st : St) : Sum (List Arr) (List Arr × Nat × Nat) → Prop
  | .inl l => HJ As c4 c5 c6 L C (l.map (·.1)) (l.map (·.1)) st.h.next st.h
  | .inr (l, at_, i) => st.h.blk L = .loop { R60 As with st := .done, pending := some .ret } ∧ st.h.blk c4 = .live 1 [.frz ((wordA l l.length at_ [i]).map natD) .exact] ∧ st.h.blk c5 = .live 1 [.frz [] .nil] ∧ C < st.h.next
structure J109 (a b : M) (As : Nat → D) (c4 c5 c6 L C : Nat) (at_ : Nat) (p : Int × Int) (R : Sum (List Arr) (List Arr × Nat × Nat)) (k : Nat) (st : St) : Prop where
  le : k ≤ a.ins
  ex : ∃ l, F109 a b As c4 c5 c6 L C l at_ st ∧ at_ < l.length ∧ (l.getD at_ arr0).1 = p ∧ innP a b at_ k l = R
  h7 : st.A 7 = .int .i64 p.1
  h8 : st.A 8 = .int .i64 p.2
  h37 : st.A 37 = .int .i64 a.ins
  h38 : st.A 38 = .int .i64 ((a.ins - k : Nat) : Int)
theorem loop109b {a b : M} (va : Valid a) (vb : Valid b) (hins : a.ins = b.ins) {As : Nat → D} {c4 c5 c6 L C at_ : Nat} {p : Int × Int} (hp : 0 ≤ p.1 ∧ p.1 < a.rows.length ∧ 0 ≤ p.2 ∧ p.2 < b.rows.length) {R : Sum (List Arr) (List Arr × Nat × Nat)} {Q : Po}
    (hQ : ∀ st, J109 a b As c4 c5 c6 L C at_ p R 0 st → Q.x 2 st) (hR : ∀ st l a' i, R = .inr (l, a', i) → Res109 As c4 c5 c6 L C st R → Q.r st) (k : Nat) (st : St) (hI : J109 a b As c4 c5 c6 L C at_ p R k st) : V E 109 95 (.loop l109_1) st Q := by
  have i2 := va.i2
  have ar2 := va.r2
  have br2 := vb.r2
  refine V.count (J109 a b As c4 c5 c6 L C at_ p R) ?_ ?_ k st hI
  · rintro k ⟨A, h⟩ ⟨le, ⟨l, f, hat, hpe, hR'⟩, h7, h8, h37, h38⟩
    have hlt : a.ins - (k + 1) < a.ins := by omega
    obtain ⟨f0, f1, f2, f4, ⟨tk, f5, ft⟩, f6, fj, fg⟩ := f
    rw [innP, stepP, hpe] at hR'
    generalize hi : a.ins - (k + 1) = i at *
    have hk' : a.ins - k = i + 1 := by omega
    have hwr : IntKind.i64.wrap ((i : Int) + 1) = ((i + 1 : Nat) : Int) := by rw [wrap_id] <;> omega
    simp only at f0 f1 f2 f4 f5 ft f6 fj h7 h8 h37 h38
    obtain ⟨p1, p2⟩ := p
    simp only at h7 h8 hp hR'
    obtain ⟨s, rfl⟩ := Int.eq_ofNat_of_zero_le hp.1
    obtain ⟨t, rfl⟩ := Int.eq_ofNat_of_zero_le hp.2.2.1
    simp only [Int.toNat_natCast] at hR'
    have hs : s < a.rows.length := by omega
    have ht : t < b.rows.length := by omega
    have hsl : i < a.rows[s].length := by rw [va.len _ (List.getElem_mem hs)]; exact hlt
    have htl : i < b.rows[t].length := by rw [vb.len _ (List.getElem_mem ht)]; omega
    have ea : edge a s i = a.rows[s][i] := by simp [edge, hs, hsl]
    have eb : edge b t i = b.rows[t][i] := by simp [edge, ht, htl]
    have oka := edge_ok va hs hlt
    have okb := edge_ok vb ht (by omega : i < b.ins)
    rw [ea] at oka hR'
    rw [eb] at okb hR'
    have hll := fg.len
    have hll2 : l.length ≤ 64 * 64 := Nat.le_trans hll (Nat.mul_le_mul ar2 br2)
    obtain ⟨x, hx⟩ : ∃ x, a.rows[s][i] = x := ⟨_, rfl⟩
    obtain ⟨y, hy⟩ : ∃ y, b.rows[t][i] = y := ⟨_, rfl⟩
    rw [hx] at oka hR'
    rw [hy] at okb hR'
    rw [cl109_1]
    refine .then xr109_7 (by simp [o109_7, builtinD, lenD, pD, argA, h37, h38, hlt]; rfl) ?_
    refine .head (v := true) (by simp [opd, upd]) (fun _ => ?_) (fun q => by cases q)
    refine .seq (.block (.then xr109_8 (by simp [o109_8, builtinD, lenD, pD, argA, h38]; rfl) ?_))
    have fin : ∀ (A3 : Nat → D) (h3 : H) (tk' : Tok), (∀ t, t = 0 ∨ t = 1 ∨ t = 2 ∨ t = 4 ∨ t = 6 ∨ t = 7 ∨ t = 8 ∨ t = 37 ∨ t = 38 → A3 t = A t) → A3 5 = .frz ((addA l at_ i x y).map arrD) tk' → TokX h3.blk tk' 4 h3.next → HJ As c4 c5 c6 L C ((addA l at_ i x y).map (·.1)) ((addA l at_ i x y).map (·.1)) h3.next h3 → x.2 = y.2 →
        V E 109 95 r109_15 ⟨A3, h3⟩ (Q.upto (J109 a b As c4 c5 c6 L C at_ ((s : Int), (t : Int)) R k)) := by
      intro A3 h3 tk' eA e5 et ej he
      have e38 := (eA 38 (by omega)).trans h38
      rw [if_pos he] at hR'
      refine .reg xr109_15 (by simp [o109_15, builtinD, lenD, pD, argA, e38]; rfl) ⟨by omega, ⟨addA l at_ i x y, ⟨?_, ?_, ?_, ?_, ⟨tk', ?_, ?_⟩, ?_, ?_, ?_⟩, ?_, ?_, hR'⟩, ?_, ?_, ?_, ?_⟩
      · simp [upd, eA, f0]
      · simp [upd, eA, f1]
      · simp [upd, eA, f2]
      · simp [upd, eA, f4]
      · simp [upd, e5]
      · exact et.mono (by simp) (fun b _ h => h)
      · simp [upd, eA, f6]
      · exact ej.frame (fun b _ => rfl) (by simp) (Nat.le_refl _)
      · exact fg.add hat oka okb he
      · exact Nat.lt_of_lt_of_le hat (addA_len _ _ _ _ _)
      · rw [addA_at hat, hpe]
      · simp [upd, eA, h7]
      · simp [upd, eA, h8]
      · simp [upd, eA, h37]
      · simp [upd, hk', hwr]
    have rest : ∀ (A2 : Nat → D) (h2 : H) (cx cy : Nat), (∀ t, t = 0 ∨ t = 1 ∨ t = 2 ∨ t = 4 ∨ t = 5 ∨ t = 6 ∨ t = 7 ∨ t = 8 ∨ t = 37 ∨ t = 38 → A2 t = A t) → A2 9 = .int .i64 i → A2 10 = .ptr cx 0 0 → A2 11 = .ptr cy 0 0 → h2.blk cx = .live 2 [.agg [.int .i64 x.1, .int .i64 x.2]] → h2.blk cy = .live 2 [.agg [.int .i64 y.1, .int .i64 y.2]] → (∀ b, b < h.next → h2.blk b = h.blk b) → h.next ≤ cx → cx < h2.next → h.next ≤ cy → cy < h2.next →
        V E 109 95 ((r109_10.seq (.cond (.tmp 65) .ret .skip)).seq (r109_11.seq (r109_12.seq (.cond (.tmp 84) (r109_13.seq r109_14) .skip)))) ⟨A2, h2⟩ (((Q.upto (J109 a b As c4 c5 c6 L C at_ ((s : Int), (t : Int)) R k)).upto fun s' => V E 109 95 r109_15 s' (Q.upto (J109 a b As c4 c5 c6 L C at_ ((s : Int), (t : Int)) R k))).within 3) := by
      intro A2 h2 cx cy eA e9 e10 e11 ecx ecy eb2 k1 k2 k3 k4
      have g0 := (eA 0 (by omega)).trans f0
      have g4 := (eA 4 (by omega)).trans f4
      have g5 := (eA 5 (by omega)).trans f5
      have g6 := (eA 6 (by omega)).trans f6
      have hj3 : HJ As c4 c5 c6 L C (l.map (·.1)) (l.map (·.1)) h.next ⟨h2.next + 9, h2.blk⟩ := fj.frame (fun b hb => eb2 b hb) (Nat.le_refl _) (by simp only; omega)
      by_cases he : x.2 = y.2
      · obtain ⟨h', y1, y2, y3, y4, y5⟩ := yieldT hj3 (at_ := at_) (i := i) (x := x) (y := y) (l := l) (tk := tk) (by simp; omega) he
        simp only [meetD] at y1
        simp only at y3 y4 y5
        refine .assoc (.then xr109_10 (by simp [o109_10, builtinD, lenD, pD, argA, g0, g5, g6, e9, e10, e11, ecx, ecy, y1]; rfl) ?_)
        refine .seq (.cond (v := false) (by simp [opd, upd]) (fun q => by cases q) (fun _ => .skip ?_))
        have d1 := (y4 cx k1 (by omega)).trans ecx
        have d2 := (y4 cy k3 (by omega)).trans ecy
        have dt : TokX h'.blk tk 4 h'.next := ft.mono (by omega) (fun b hb hbt => y5 b (by omega) ((eb2 b hb).trans hbt))
        refine .then xr109_11 (by simp [o109_11, builtinD, lenD, pD, argA, e10, e11, d1, d2]; rfl) ?_
        have w1 : ¬ cx = h'.next + 5 := by omega
        have w2 : ¬ cy = h'.next + 5 := by omega
        have w3 : ¬ C = h'.next + 5 := by have := y2.cn; omega
        have w4 : ∀ b, b < h'.next → ¬ b = h'.next + 5 := by omega
        have hmC := y2.hm
        have fj2 : ∀ blk2 : Nat → Blk, (∀ b, b < h'.next → blk2 b = h'.blk b) → ∀ nx, h'.next ≤ nx → HJ As c4 c5 c6 L C (addP (l.map (·.1)) x y) (l.map (·.1)) nx ⟨nx, blk2⟩ := fun blk2 hb nx hn => y2.frame hb hn (Nat.le_refl _)
        by_cases hx1 : x.1 = -1
        · have hxb : (x.1 != -1) = false := by simp [hx1]
          have ea1 : addA l at_ i x y = l := by simp [addA, hx1]
          have ea2 : addP (l.map (·.1)) x y = l.map (·.1) := by simp [addP, hx1]
          rw [ea1] at fin
          rw [ea2] at fj2
          refine .then xr109_12 (by simp [o109_12, builtinD, lenD, pD, argA, e10, e11, d1, d2, w1, w2, hxb]; rfl) ?_
          refine .cond (v := false) (by simp [opd, upd]) (fun q => by cases q) (fun _ => .skip ?_)
          refine fin _ _ tk (fun t ht => ?_) (by simp [upd, g5]) (dt.mono (by simp; omega) (fun b hb hbt => ?_)) (fj2 _ (fun b hb => ?_) _ (by simp; omega)) he
          · rcases ht with rfl | rfl | rfl | rfl | rfl | rfl | rfl | rfl | rfl <;> simp [upd, eA]
          · simp [upds, upd, w4 b hb, hbt]
          · simp [upds, upd, w4 b hb]
        · have hxb : (x.1 != -1) = true := by simp [hx1]
          have hx2 : x.2 ≠ -1 := by rcases oka with rfl | q; exact absurd rfl hx1; omega
          have hy1 : y.1 ≠ -1 := by rcases okb with rfl | q; exact absurd he hx2; omega
          have hyb : (y.1 != -1) = true := by simp [hy1]
          have lk : ∀ blk2 : Nat → Blk, blk2 C = .map ((l.map (·.1)).map fun p => (pD p, .bool true)) → lookupD E.T blk2 111 (.mp C) (.agg [.int .i64 x.1, .int .i64 y.1]) false = some { v := .bool (decide ((x.1, y.1) ∈ l.map (·.1))), rd := [C] } := fun blk2 hb => lookP hb (x.1, y.1)
          by_cases hin : (x.1, y.1) ∈ l.map (·.1)
          · rw [decide_eq_true hin] at lk
            have ea1 : addA l at_ i x y = l := by unfold addA; rw [if_neg (fun q => q.2 hin)]
            have ea2 : addP (l.map (·.1)) x y = l.map (·.1) := by unfold addP; rw [if_neg (fun q => q.2 hin)]
            rw [ea1] at fin
            rw [ea2] at fj2
            have hmC' := hmC
            generalize hms : (l.map (·.1)).map (fun p => (pD p, D.bool true)) = ms at *
            refine .then xr109_12 (by simp [o109_12, builtinD, lenD, pD, argA, e10, e11, d1, d2, w1, w2, w3, hxb, hyb, g4, lk, hmC']; rfl) ?_
            refine .cond (v := false) (by simp [opd, upd]) (fun q => by cases q) (fun _ => .skip ?_)
            refine fin _ _ tk (fun t ht => ?_) (by simp [upd, g5]) (dt.mono (by simp; omega) (fun b hb hbt => ?_)) (fj2 _ (fun b hb => ?_) _ (by simp; omega)) he
            · rcases ht with rfl | rfl | rfl | rfl | rfl | rfl | rfl | rfl | rfl <;> simp [upd, eA]
            · simp [upds, upd, w4 b hb, hbt]
            · simp [upds, upd, w4 b hb]
          · rw [decide_eq_false hin] at lk
            have ea1 : addA l at_ i x y = l ++ [((x.1, y.1), (at_ : Int), i)] := by unfold addA; rw [if_pos ⟨hx1, hin⟩]
            have ea2 : addP (l.map (·.1)) x y = l.map (·.1) ++ [(x.1, y.1)] := by unfold addP; rw [if_pos ⟨hx1, hin⟩]
            rw [ea1] at fin
            rw [ea2] at fj2
            have hmC' := hmC
            have up : ∀ blk2 : Nat → Blk, blk2 C = .map ((l.map (·.1)).map fun p => (pD p, .bool true)) → updateD E.T blk2 111 (.mp C) (.agg [.int .i64 x.1, .int .i64 y.1]) (.bool true) = some { v := .undef, wr := [(C, .map ((l.map (·.1) ++ [(x.1, y.1)]).map fun p => (pD p, .bool true)))], rd := [C] } := fun blk2 hb => updP hb hin
            generalize hms : (l.map (·.1)).map (fun p => (pD p, D.bool true)) = ms at *
            refine .then xr109_12 (by simp [o109_12, builtinD, lenD, pD, argA, e10, e11, d1, d2, w1, w2, w3, hxb, hyb, g4, lk, hmC']; rfl) ?_
            refine .cond (v := true) (by simp [opd, upd]) (fun _ => ?_) (fun q => by cases q)
            have w3' : ¬ h'.next + 5 = C := fun e => w3 e.symm
            have mu109 : E.pol.mu 109 140 = false := by decide
            have ap : ∀ (blk : Nat → Blk) s nx tkz, TokX blk tk 4 nx → builtinD E.T (E.pol.mu 109) s blk .append [140, 140] [.frz (l.map arrD) tk, .frz [.agg [.int .i64 x.1, .int .i64 y.1, .int .i64 at_, .int .i64 i]] tkz] = some { v := .frz ((l ++ [((x.1, y.1), (at_ : Int), i)]).map arrD) (.own s 4), wr := tokWr tk s, rd := tokRd tk } := fun blk s nx tkz ht => app140 (x := ((x.1, y.1), (at_ : Int), i)) mu109 ht (by omega)
            have nC : ∀ o, tk = .own o 4 → o ≠ C := fun o e eo => by
              rcases dt with q | ⟨o', q1, q2, q3⟩
              · rw [q] at e; cases e
              · rw [q1] at e; cases e; rw [eo, hmC'] at q2; cases q2
            have rest2 : ∀ (A4 : Nat → D) (h4 : H) (cz : Nat), (∀ t, t = 0 ∨ t = 1 ∨ t = 2 ∨ t = 4 ∨ t = 5 ∨ t = 6 ∨ t = 7 ∨ t = 8 ∨ t = 37 ∨ t = 38 → A4 t = A t) → A4 9 = .int .i64 i → A4 12 = .ptr cz 0 0 → h4.blk cz = .live 2 [.agg [.int .i64 x.1, .int .i64 y.1]] → TokX h4.blk tk 4 h4.next → HJ As c4 c5 c6 L C (l.map (·.1) ++ [(x.1, y.1)]) (l.map (·.1) ++ [(x.1, y.1)]) h4.next h4 →
                V E 109 95 r109_14 ⟨A4, h4⟩ ((Q.upto (J109 a b As c4 c5 c6 L C at_ ((s : Int), (t : Int)) R k)).upto (fun s' => V E 109 95 r109_15 s' (Q.upto (J109 a b As c4 c5 c6 L C at_ ((s : Int), (t : Int)) R k))) |>.within 3) := by
              intro A4 h4 cz eA4 e9' e12 ecz et ej
              have g5' := (eA4 5 (by omega)).trans f5
              have g6' := (eA4 6 (by omega)).trans f6
              have ap' := fun s tkz => ap h4.blk s h4.next tkz et
              refine .reg xr109_14 (by simp [o109_14, pD, argA, g5', g6', e9', e12, ecz, ap', mu109, show List.range 1 = [0] from rfl, mapK, snapDepth, snap_int, snap, kills]; rfl) ?_
              refine fin _ _ (.own (h4.next + 6) 4) (fun t ht => ?_) (by simp [upd]) ?_ ?_ he
              · rcases ht with rfl | rfl | rfl | rfl | rfl | rfl | rfl | rfl | rfl <;> simp [upd, eA4]
              · refine .inr ⟨_, rfl, ?_, by simp⟩
                rcases et with rfl | ⟨o, rfl, o1, o2⟩ <;> simp [upds, upd, tokWr]
              · rw [List.map_append]
                refine ej.frameT (fun b hb hbt => ?_) (by simp) (Nat.le_refl _)
                rcases et with rfl | ⟨o, rfl, o1, o2⟩
                · simp [upds, upd, tokWr, show ¬ b = h4.next + 6 by omega]
                · have : b ≠ o := fun e => hbt (by rw [e]; exact o1)
                  simp [upds, upd, tokWr, show ¬ b = h4.next + 6 by omega, this]
            refine .then xr109_13 (by simp [o109_13, builtinD, lenD, pD, argA, g4, w1, w2, w3, w3', up, hmC']; rfl) ?_
            refine rest2 _ _ (h'.next + 5) (fun t ht => ?_) (by simp [upd, e9]) (by simp [upd]) (by simp [upds, upd, w3']) ?_ ?_
            · rcases ht with rfl | rfl | rfl | rfl | rfl | rfl | rfl | rfl | rfl | rfl <;> simp [upd, eA]
            · refine dt.mono (by simp; omega) (fun b hb hbt => ?_)
              have : b ≠ C := fun e => by rw [e, hmC'] at hbt; cases hbt
              simp [upds, upd, w4 b hb, hbt, this]
            · refine ((fj2 h'.blk (fun _ _ => rfl) h'.next (Nat.le_refl _)).map (h' := ⟨_, _⟩) (fun b hb hbC => ?_) ?_ (by simp only; omega)).frame (fun _ _ => rfl) (by simp only; omega) (Nat.le_refl _)
              · simp [upds, upd, w4 b hb, hbC]
              · simp [upds, upd, ← hms, pD]
      · obtain ⟨h', y1, y2, y3, y4, y5⟩ := yieldF hj3 (at_ := at_) (i := i) (x := x) (y := y) (l := l) (tk := tk) he fg.ok hat (by omega)
        simp only [meetD] at y1
        refine .assoc (.then xr109_10 (by simp [o109_10, builtinD, lenD, pD, argA, g0, g5, g6, e9, e10, e11, ecx, ecy, y1]; rfl) ?_)
        refine .seq (.cond (v := true) (by simp [opd, upd]) (fun _ => .ret ?_) (fun q => by cases q))
        rw [if_neg he] at hR'
        refine hR _ l at_ i hR'.symm ?_
        rw [← hR']
        exact ⟨y2, y3, y4, by have := fj.cn; simp only at y5; show C < h'.next; omega⟩
    refine .then xr109_9 (by simp [o109_9, builtinD, lenD, pD, argA, f1, f2, h7, h8, encM, hs, ht, hsl, htl, hx, hy, rowD]; rfl) ?_
    refine rest _ _ (h.next + 1 + 2 + 16) (h.next + 1 + 2 + 17) (fun t ht => ?_) (by simp [upd]) (by simp [upd]) (by simp [upd]) (by simp [upds, upd]) (by simp [upds, upd]) (fun b hb => ?_) (by omega) (by simp) (by omega) (by simp)
    · rcases ht with rfl | rfl | rfl | rfl | rfl | rfl | rfl | rfl | rfl | rfl <;> simp [upd]
    · simp [upds, upd, show ¬ b = h.next + 1 + 2 + 16 by omega, show ¬ b = h.next + 1 + 2 + 17 by omega]
  · rintro ⟨A, h⟩ ⟨le, ⟨l, f, hat, hpe, hR'⟩, h7, h8, h37, h38⟩
    obtain ⟨f0, f1, f2, f4, ⟨tk, f5, ft⟩, f6, fj, fg⟩ := f
    simp only at f0 f1 f2 f4 f5 ft f6 fj h7 h8 h37 h38
    rw [cl109_1]
    refine .then xr109_7 (by simp [o109_7, builtinD, lenD, pD, argA, h37, h38]; rfl) ?_
    refine .head (v := false) (by simp [opd, upd]) (fun q => by cases q) (fun _ => hQ _ ⟨by omega, ⟨l, ⟨?_, ?_, ?_, ?_, ⟨tk, ?_, ?_⟩, ?_, ?_, fg⟩, hat, hpe, hR'⟩, ?_, ?_, ?_, ?_⟩)
    · simp [upd, f0]
    · simp [upd, f1]
    · simp [upd, f2]
    · simp [upd, f4]
    · simp [upd, f5]
    · exact ft.mono (by simp) (fun b _ h => h)
    · simp [upd, f6]
    · exact fj.frame (fun b _ => rfl) (by simp) (Nat.le_refl _)
    · simp [upd, h7]
    · simp [upd, h8]
    · simp [upd, h37]
    · simp [upd, h38]
end Go.Eng.E3
