/- Lemmas: S00, S01, S02, S03, S04, S0, ST, C48, C51, C16, C22, SB, SM, SApp, S22, S121, S98a, S98b, S98c, S98, S78, S78b. -/
import Derived.Test.YtcogomacihefoaaEqF
import Derived.Test.YtcogomacihefoaaChecked
import Derived.KernelRfl
set_option linter.unusedVariables false
set_option linter.unusedSimpArgs false
set_option linter.unusedSectionVars false
set_option linter.deprecated false
/- The seat: its policy, its environment. -/
namespace Go.Eng.E3
open Go Go.Eng Go.Proofs
set_option maxRecDepth 100000
def pol : Pol where
  pure g := !(g == 34 || g == 35 || g == 38 || g == 49 || g == 60 || g == 64 || g == 80 || g == 94 || g == 103 || g == 109 || g == 123 || g == 124 || g == 125 || g == 126 || g == 127 || g == 128 || g == 129 || g == 130 || g == 140 || g == 143 || g == 145 || g == 146 || g == 147 || g == 151 || g == 153 || g == 154 || g == 155)
  args g := g == 57 || g == 58
  keep _ := true
  mu g t := match g with
    | 10 => t == 32
    | 17 => t == 62
    | 30 => t == 32 || t == 72
    | 41 => t == 32 || t == 72
    | 49 => t == 32 || t == 72
    | 60 => t == 76
    | 61 => t == 123 || t == 127
    | 64 => t == 37
    | 67 => t == 32 || t == 62
    | 74 => t == 123 || t == 127
    | 79 => t == 123
    | 94 => t == 32 || t == 62 || t == 72
    | 96 => t == 76 || t == 123
    | 98 => t == 37 || t == 123
    | 117 => t == 123
    | 140 => t == 123
    | 152 => t == 62
    | _ => false

noncomputable def okAt (g : Nat) : Bool := match Try.prog.funcs[g]? with
  | some fn => fnOkB fn
  | none => true
end Go.Eng.E3

namespace Go.Eng.E3
open Go Go.Eng Go.Proofs
set_option maxRecDepth 100000
theorem chk0 : (List.range' 3 2).all okAt = true := by kernel_rfl
theorem chk1 : (List.range' 5 2).all okAt = true := by kernel_rfl
theorem chk2 : (List.range' 7 2).all okAt = true := by kernel_rfl
theorem chk3 : (List.range' 9 2).all okAt = true := by kernel_rfl
theorem chk4 : (List.range' 11 2).all okAt = true := by kernel_rfl
theorem chk5 : (List.range' 13 2).all okAt = true := by kernel_rfl
theorem chk6 : (List.range' 15 2).all okAt = true := by kernel_rfl
theorem chk7 : (List.range' 17 2).all okAt = true := by kernel_rfl
theorem chk8 : (List.range' 19 2).all okAt = true := by kernel_rfl
theorem chk9 : (List.range' 21 2).all okAt = true := by kernel_rfl
theorem chk10 : (List.range' 23 2).all okAt = true := by kernel_rfl
theorem chk11 : (List.range' 25 2).all okAt = true := by kernel_rfl
theorem chk12 : (List.range' 27 2).all okAt = true := by kernel_rfl
theorem chk13 : (List.range' 29 2).all okAt = true := by kernel_rfl
theorem chk14 : (List.range' 31 2).all okAt = true := by kernel_rfl
theorem chk15 : (List.range' 33 2).all okAt = true := by kernel_rfl
theorem chk16 : (List.range' 35 2).all okAt = true := by kernel_rfl
theorem chk17 : (List.range' 37 2).all okAt = true := by kernel_rfl
theorem chk18 : (List.range' 39 2).all okAt = true := by kernel_rfl
theorem chk19 : (List.range' 41 2).all okAt = true := by kernel_rfl
end Go.Eng.E3

namespace Go.Eng.E3
open Go Go.Eng Go.Proofs
set_option maxRecDepth 100000
theorem chk20 : (List.range' 43 2).all okAt = true := by kernel_rfl
theorem chk21 : (List.range' 45 2).all okAt = true := by kernel_rfl
theorem chk22 : (List.range' 47 2).all okAt = true := by kernel_rfl
theorem chk23 : (List.range' 49 2).all okAt = true := by kernel_rfl
theorem chk24 : (List.range' 51 2).all okAt = true := by kernel_rfl
theorem chk25 : (List.range' 53 2).all okAt = true := by kernel_rfl
theorem chk26 : (List.range' 55 2).all okAt = true := by kernel_rfl
theorem chk27 : (List.range' 57 2).all okAt = true := by kernel_rfl
theorem chk28 : (List.range' 59 2).all okAt = true := by kernel_rfl
theorem chk29 : (List.range' 61 2).all okAt = true := by kernel_rfl
theorem chk30 : (List.range' 63 2).all okAt = true := by kernel_rfl
theorem chk31 : (List.range' 65 2).all okAt = true := by kernel_rfl
theorem chk32 : (List.range' 67 2).all okAt = true := by kernel_rfl
theorem chk33 : (List.range' 69 2).all okAt = true := by kernel_rfl
theorem chk34 : (List.range' 71 2).all okAt = true := by kernel_rfl
theorem chk35 : (List.range' 73 2).all okAt = true := by kernel_rfl
theorem chk36 : (List.range' 75 2).all okAt = true := by kernel_rfl
theorem chk37 : (List.range' 77 2).all okAt = true := by kernel_rfl
theorem chk38 : (List.range' 79 2).all okAt = true := by kernel_rfl
end Go.Eng.E3

namespace Go.Eng.E3
open Go Go.Eng Go.Proofs
set_option maxRecDepth 100000
theorem chk39 : (List.range' 81 2).all okAt = true := by kernel_rfl
theorem chk40 : (List.range' 83 2).all okAt = true := by kernel_rfl
theorem chk41 : (List.range' 85 2).all okAt = true := by kernel_rfl
theorem chk42 : (List.range' 87 2).all okAt = true := by kernel_rfl
theorem chk43 : (List.range' 89 2).all okAt = true := by kernel_rfl
theorem chk44 : (List.range' 91 2).all okAt = true := by kernel_rfl
theorem chk45 : (List.range' 93 2).all okAt = true := by kernel_rfl
theorem chk46 : (List.range' 95 2).all okAt = true := by kernel_rfl
theorem chk47 : (List.range' 97 2).all okAt = true := by kernel_rfl
theorem chk48 : (List.range' 99 2).all okAt = true := by kernel_rfl
theorem chk49 : (List.range' 101 2).all okAt = true := by kernel_rfl
theorem chk50 : (List.range' 103 2).all okAt = true := by kernel_rfl
theorem chk51 : (List.range' 105 2).all okAt = true := by kernel_rfl
theorem chk52 : (List.range' 107 2).all okAt = true := by kernel_rfl
theorem chk53 : (List.range' 109 2).all okAt = true := by kernel_rfl
theorem chk54 : (List.range' 111 2).all okAt = true := by kernel_rfl
theorem chk55 : (List.range' 113 2).all okAt = true := by kernel_rfl
theorem chk56 : (List.range' 115 2).all okAt = true := by kernel_rfl
theorem chk57 : (List.range' 117 2).all okAt = true := by kernel_rfl
theorem chk58 : (List.range' 119 2).all okAt = true := by kernel_rfl
end Go.Eng.E3

namespace Go.Eng.E3
open Go Go.Eng Go.Proofs
set_option maxRecDepth 100000
theorem chk59 : (List.range' 121 2).all okAt = true := by kernel_rfl
theorem chk60 : (List.range' 123 2).all okAt = true := by kernel_rfl
theorem chk61 : (List.range' 125 2).all okAt = true := by kernel_rfl
theorem chk62 : (List.range' 127 2).all okAt = true := by kernel_rfl
theorem chk63 : (List.range' 129 2).all okAt = true := by kernel_rfl
theorem chk64 : (List.range' 131 2).all okAt = true := by kernel_rfl
theorem chk65 : (List.range' 133 2).all okAt = true := by kernel_rfl
theorem chk66 : (List.range' 135 2).all okAt = true := by kernel_rfl
theorem chk67 : (List.range' 137 2).all okAt = true := by kernel_rfl
theorem chk68 : (List.range' 139 2).all okAt = true := by kernel_rfl
theorem chk69 : (List.range' 141 2).all okAt = true := by kernel_rfl
theorem chk70 : (List.range' 143 2).all okAt = true := by kernel_rfl
theorem chk71 : (List.range' 145 2).all okAt = true := by kernel_rfl
theorem chk72 : (List.range' 147 2).all okAt = true := by kernel_rfl
theorem chk73 : (List.range' 149 2).all okAt = true := by kernel_rfl
theorem chk74 : (List.range' 151 2).all okAt = true := by kernel_rfl
theorem chk75 : (List.range' 153 2).all okAt = true := by kernel_rfl
theorem chk76 : (List.range' 155 2).all okAt = true := by kernel_rfl
end Go.Eng.E3

namespace Go.Eng.E3
open Go Go.Eng Go.Proofs
set_option maxRecDepth 100000

theorem okAt_all {g : Nat} (h1 : 3 ≤ g) (h2 : g < 157) : okAt g = true := by
  by_cases c0 : g < 5
  · exact List.all_eq_true.1 chk0 g (List.mem_range'.2 ⟨g - 3, by omega, by omega⟩)
  by_cases c1 : g < 7
  · exact List.all_eq_true.1 chk1 g (List.mem_range'.2 ⟨g - 5, by omega, by omega⟩)
  by_cases c2 : g < 9
  · exact List.all_eq_true.1 chk2 g (List.mem_range'.2 ⟨g - 7, by omega, by omega⟩)
  by_cases c3 : g < 11
  · exact List.all_eq_true.1 chk3 g (List.mem_range'.2 ⟨g - 9, by omega, by omega⟩)
  by_cases c4 : g < 13
  · exact List.all_eq_true.1 chk4 g (List.mem_range'.2 ⟨g - 11, by omega, by omega⟩)
  by_cases c5 : g < 15
  · exact List.all_eq_true.1 chk5 g (List.mem_range'.2 ⟨g - 13, by omega, by omega⟩)
  by_cases c6 : g < 17
  · exact List.all_eq_true.1 chk6 g (List.mem_range'.2 ⟨g - 15, by omega, by omega⟩)
  by_cases c7 : g < 19
  · exact List.all_eq_true.1 chk7 g (List.mem_range'.2 ⟨g - 17, by omega, by omega⟩)
  by_cases c8 : g < 21
  · exact List.all_eq_true.1 chk8 g (List.mem_range'.2 ⟨g - 19, by omega, by omega⟩)
  by_cases c9 : g < 23
  · exact List.all_eq_true.1 chk9 g (List.mem_range'.2 ⟨g - 21, by omega, by omega⟩)
  by_cases c10 : g < 25
  · exact List.all_eq_true.1 chk10 g (List.mem_range'.2 ⟨g - 23, by omega, by omega⟩)
  by_cases c11 : g < 27
  · exact List.all_eq_true.1 chk11 g (List.mem_range'.2 ⟨g - 25, by omega, by omega⟩)
  by_cases c12 : g < 29
  · exact List.all_eq_true.1 chk12 g (List.mem_range'.2 ⟨g - 27, by omega, by omega⟩)
  by_cases c13 : g < 31
  · exact List.all_eq_true.1 chk13 g (List.mem_range'.2 ⟨g - 29, by omega, by omega⟩)
  by_cases c14 : g < 33
  · exact List.all_eq_true.1 chk14 g (List.mem_range'.2 ⟨g - 31, by omega, by omega⟩)
  by_cases c15 : g < 35
  · exact List.all_eq_true.1 chk15 g (List.mem_range'.2 ⟨g - 33, by omega, by omega⟩)
  by_cases c16 : g < 37
  · exact List.all_eq_true.1 chk16 g (List.mem_range'.2 ⟨g - 35, by omega, by omega⟩)
  by_cases c17 : g < 39
  · exact List.all_eq_true.1 chk17 g (List.mem_range'.2 ⟨g - 37, by omega, by omega⟩)
  by_cases c18 : g < 41
  · exact List.all_eq_true.1 chk18 g (List.mem_range'.2 ⟨g - 39, by omega, by omega⟩)
  by_cases c19 : g < 43
  · exact List.all_eq_true.1 chk19 g (List.mem_range'.2 ⟨g - 41, by omega, by omega⟩)
  by_cases c20 : g < 45
  · exact List.all_eq_true.1 chk20 g (List.mem_range'.2 ⟨g - 43, by omega, by omega⟩)
  by_cases c21 : g < 47
  · exact List.all_eq_true.1 chk21 g (List.mem_range'.2 ⟨g - 45, by omega, by omega⟩)
  by_cases c22 : g < 49
  · exact List.all_eq_true.1 chk22 g (List.mem_range'.2 ⟨g - 47, by omega, by omega⟩)
  by_cases c23 : g < 51
  · exact List.all_eq_true.1 chk23 g (List.mem_range'.2 ⟨g - 49, by omega, by omega⟩)
  by_cases c24 : g < 53
  · exact List.all_eq_true.1 chk24 g (List.mem_range'.2 ⟨g - 51, by omega, by omega⟩)
  by_cases c25 : g < 55
  · exact List.all_eq_true.1 chk25 g (List.mem_range'.2 ⟨g - 53, by omega, by omega⟩)
  by_cases c26 : g < 57
  · exact List.all_eq_true.1 chk26 g (List.mem_range'.2 ⟨g - 55, by omega, by omega⟩)
  by_cases c27 : g < 59
  · exact List.all_eq_true.1 chk27 g (List.mem_range'.2 ⟨g - 57, by omega, by omega⟩)
  by_cases c28 : g < 61
  · exact List.all_eq_true.1 chk28 g (List.mem_range'.2 ⟨g - 59, by omega, by omega⟩)
  by_cases c29 : g < 63
  · exact List.all_eq_true.1 chk29 g (List.mem_range'.2 ⟨g - 61, by omega, by omega⟩)
  by_cases c30 : g < 65
  · exact List.all_eq_true.1 chk30 g (List.mem_range'.2 ⟨g - 63, by omega, by omega⟩)
  by_cases c31 : g < 67
  · exact List.all_eq_true.1 chk31 g (List.mem_range'.2 ⟨g - 65, by omega, by omega⟩)
  by_cases c32 : g < 69
  · exact List.all_eq_true.1 chk32 g (List.mem_range'.2 ⟨g - 67, by omega, by omega⟩)
  by_cases c33 : g < 71
  · exact List.all_eq_true.1 chk33 g (List.mem_range'.2 ⟨g - 69, by omega, by omega⟩)
  by_cases c34 : g < 73
  · exact List.all_eq_true.1 chk34 g (List.mem_range'.2 ⟨g - 71, by omega, by omega⟩)
  by_cases c35 : g < 75
  · exact List.all_eq_true.1 chk35 g (List.mem_range'.2 ⟨g - 73, by omega, by omega⟩)
  by_cases c36 : g < 77
  · exact List.all_eq_true.1 chk36 g (List.mem_range'.2 ⟨g - 75, by omega, by omega⟩)
  by_cases c37 : g < 79
  · exact List.all_eq_true.1 chk37 g (List.mem_range'.2 ⟨g - 77, by omega, by omega⟩)
  by_cases c38 : g < 81
  · exact List.all_eq_true.1 chk38 g (List.mem_range'.2 ⟨g - 79, by omega, by omega⟩)
  by_cases c39 : g < 83
  · exact List.all_eq_true.1 chk39 g (List.mem_range'.2 ⟨g - 81, by omega, by omega⟩)
  by_cases c40 : g < 85
  · exact List.all_eq_true.1 chk40 g (List.mem_range'.2 ⟨g - 83, by omega, by omega⟩)
  by_cases c41 : g < 87
  · exact List.all_eq_true.1 chk41 g (List.mem_range'.2 ⟨g - 85, by omega, by omega⟩)
  by_cases c42 : g < 89
  · exact List.all_eq_true.1 chk42 g (List.mem_range'.2 ⟨g - 87, by omega, by omega⟩)
  by_cases c43 : g < 91
  · exact List.all_eq_true.1 chk43 g (List.mem_range'.2 ⟨g - 89, by omega, by omega⟩)
  by_cases c44 : g < 93
  · exact List.all_eq_true.1 chk44 g (List.mem_range'.2 ⟨g - 91, by omega, by omega⟩)
  by_cases c45 : g < 95
  · exact List.all_eq_true.1 chk45 g (List.mem_range'.2 ⟨g - 93, by omega, by omega⟩)
  by_cases c46 : g < 97
  · exact List.all_eq_true.1 chk46 g (List.mem_range'.2 ⟨g - 95, by omega, by omega⟩)
  by_cases c47 : g < 99
  · exact List.all_eq_true.1 chk47 g (List.mem_range'.2 ⟨g - 97, by omega, by omega⟩)
  by_cases c48 : g < 101
  · exact List.all_eq_true.1 chk48 g (List.mem_range'.2 ⟨g - 99, by omega, by omega⟩)
  by_cases c49 : g < 103
  · exact List.all_eq_true.1 chk49 g (List.mem_range'.2 ⟨g - 101, by omega, by omega⟩)
  by_cases c50 : g < 105
  · exact List.all_eq_true.1 chk50 g (List.mem_range'.2 ⟨g - 103, by omega, by omega⟩)
  by_cases c51 : g < 107
  · exact List.all_eq_true.1 chk51 g (List.mem_range'.2 ⟨g - 105, by omega, by omega⟩)
  by_cases c52 : g < 109
  · exact List.all_eq_true.1 chk52 g (List.mem_range'.2 ⟨g - 107, by omega, by omega⟩)
  by_cases c53 : g < 111
  · exact List.all_eq_true.1 chk53 g (List.mem_range'.2 ⟨g - 109, by omega, by omega⟩)
  by_cases c54 : g < 113
  · exact List.all_eq_true.1 chk54 g (List.mem_range'.2 ⟨g - 111, by omega, by omega⟩)
  by_cases c55 : g < 115
  · exact List.all_eq_true.1 chk55 g (List.mem_range'.2 ⟨g - 113, by omega, by omega⟩)
  by_cases c56 : g < 117
  · exact List.all_eq_true.1 chk56 g (List.mem_range'.2 ⟨g - 115, by omega, by omega⟩)
  by_cases c57 : g < 119
  · exact List.all_eq_true.1 chk57 g (List.mem_range'.2 ⟨g - 117, by omega, by omega⟩)
  by_cases c58 : g < 121
  · exact List.all_eq_true.1 chk58 g (List.mem_range'.2 ⟨g - 119, by omega, by omega⟩)
  by_cases c59 : g < 123
  · exact List.all_eq_true.1 chk59 g (List.mem_range'.2 ⟨g - 121, by omega, by omega⟩)
  by_cases c60 : g < 125
  · exact List.all_eq_true.1 chk60 g (List.mem_range'.2 ⟨g - 123, by omega, by omega⟩)
  by_cases c61 : g < 127
  · exact List.all_eq_true.1 chk61 g (List.mem_range'.2 ⟨g - 125, by omega, by omega⟩)
  by_cases c62 : g < 129
  · exact List.all_eq_true.1 chk62 g (List.mem_range'.2 ⟨g - 127, by omega, by omega⟩)
  by_cases c63 : g < 131
  · exact List.all_eq_true.1 chk63 g (List.mem_range'.2 ⟨g - 129, by omega, by omega⟩)
  by_cases c64 : g < 133
  · exact List.all_eq_true.1 chk64 g (List.mem_range'.2 ⟨g - 131, by omega, by omega⟩)
  by_cases c65 : g < 135
  · exact List.all_eq_true.1 chk65 g (List.mem_range'.2 ⟨g - 133, by omega, by omega⟩)
  by_cases c66 : g < 137
  · exact List.all_eq_true.1 chk66 g (List.mem_range'.2 ⟨g - 135, by omega, by omega⟩)
  by_cases c67 : g < 139
  · exact List.all_eq_true.1 chk67 g (List.mem_range'.2 ⟨g - 137, by omega, by omega⟩)
  by_cases c68 : g < 141
  · exact List.all_eq_true.1 chk68 g (List.mem_range'.2 ⟨g - 139, by omega, by omega⟩)
  by_cases c69 : g < 143
  · exact List.all_eq_true.1 chk69 g (List.mem_range'.2 ⟨g - 141, by omega, by omega⟩)
  by_cases c70 : g < 145
  · exact List.all_eq_true.1 chk70 g (List.mem_range'.2 ⟨g - 143, by omega, by omega⟩)
  by_cases c71 : g < 147
  · exact List.all_eq_true.1 chk71 g (List.mem_range'.2 ⟨g - 145, by omega, by omega⟩)
  by_cases c72 : g < 149
  · exact List.all_eq_true.1 chk72 g (List.mem_range'.2 ⟨g - 147, by omega, by omega⟩)
  by_cases c73 : g < 151
  · exact List.all_eq_true.1 chk73 g (List.mem_range'.2 ⟨g - 149, by omega, by omega⟩)
  by_cases c74 : g < 153
  · exact List.all_eq_true.1 chk74 g (List.mem_range'.2 ⟨g - 151, by omega, by omega⟩)
  by_cases c75 : g < 155
  · exact List.all_eq_true.1 chk75 g (List.mem_range'.2 ⟨g - 153, by omega, by omega⟩)
  by_cases c76 : g < 157
  · exact List.all_eq_true.1 chk76 g (List.mem_range'.2 ⟨g - 155, by omega, by omega⟩)
  omega

noncomputable def E : Env where
  T := tabOf Try.prog
  fn g := bif Nat.ble 3 g && Nat.blt g 157 then Try.prog.funcs[g]? else none
  pol := pol

theorem envOK : EnvOK Try.prog E where
  tab := tok_tabOf _
  mix := by kernel_rfl
  fn g fn h := by
    have h' : (bif Nat.ble 3 g && Nat.blt g 157 then Try.prog.funcs[g]? else none) = some fn := h
    cases hb : Nat.ble 3 g && Nat.blt g 157 with
    | false => rw [hb] at h'; cases h'
    | true =>
      rw [hb] at h'
      have hf : Try.prog.funcs[g]? = some fn := h'
      simp only [Bool.and_eq_true, Nat.ble_eq, Nat.blt] at hb
      have hok := okAt_all hb.1 (by omega)
      unfold okAt at hok
      rw [hf] at hok
      simp only at hok
      rw [fnOkB_eq] at hok
      unfold fnOk at hok
      simp only [Bool.and_eq_true, Bool.not_eq_true'] at hok
      refine ⟨hf, hok.1, fun c hc => ?_⟩
      have := hok.2
      rw [hc] at this
      exact this
end Go.Eng.E3

namespace Go.Eng.E3
open Go Go.Eng Go.Proofs
set_option maxRecDepth 100000
abbrev Xr (g N : Nat) (c : Code) (sl : List Oper) (ps : List (Nat × Nat)) : Prop := ∀ s, execI E g N c s = (execR E (callI E) g sl ps s).map fun s' => (.normal, s')
@[simp] theorem ok_1 : E.T.ok 1 = true := by kernel_rfl
@[simp] theorem desc_1 : E.T.desc 1 = TypeDesc.func #[] #[] false := by kernel_rfl
@[simp] theorem size_1 : E.T.size 1 = 1 := by kernel_rfl
@[simp] theorem bytes_1 : E.T.bytes 1 = 8 := by kernel_rfl
@[simp] theorem zero_1 : E.T.zero 1 = .nilfn := by kernel_rfl
@[simp] theorem agg_1 : Tab.agg E.T 1 = false := by kernel_rfl
@[simp] theorem ok_2 : E.T.ok 2 = true := by kernel_rfl
@[simp] theorem desc_2 : E.T.desc 2 = TypeDesc.int IntKind.i64 := by kernel_rfl
@[simp] theorem size_2 : E.T.size 2 = 1 := by kernel_rfl
@[simp] theorem bytes_2 : E.T.bytes 2 = 8 := by kernel_rfl
@[simp] theorem zero_2 : E.T.zero 2 = .int .i64 0 := by kernel_rfl
@[simp] theorem agg_2 : Tab.agg E.T 2 = false := by kernel_rfl
@[simp] theorem ok_3 : E.T.ok 3 = true := by kernel_rfl
@[simp] theorem desc_3 : E.T.desc 3 = TypeDesc.int IntKind.i64 := by kernel_rfl
@[simp] theorem size_3 : E.T.size 3 = 1 := by kernel_rfl
@[simp] theorem bytes_3 : E.T.bytes 3 = 8 := by kernel_rfl
@[simp] theorem zero_3 : E.T.zero 3 = .int .i64 0 := by kernel_rfl
@[simp] theorem agg_3 : Tab.agg E.T 3 = false := by kernel_rfl
@[simp] theorem ok_4 : E.T.ok 4 = true := by kernel_rfl
@[simp] theorem desc_4 : E.T.desc 4 = TypeDesc.bool := by kernel_rfl
@[simp] theorem size_4 : E.T.size 4 = 1 := by kernel_rfl
@[simp] theorem bytes_4 : E.T.bytes 4 = 1 := by kernel_rfl
@[simp] theorem zero_4 : E.T.zero 4 = .bool false := by kernel_rfl
@[simp] theorem agg_4 : Tab.agg E.T 4 = false := by kernel_rfl
@[simp] theorem ok_5 : E.T.ok 5 = true := by kernel_rfl
@[simp] theorem desc_5 : E.T.desc 5 = TypeDesc.int IntKind.u8 := by kernel_rfl
@[simp] theorem size_5 : E.T.size 5 = 1 := by kernel_rfl
@[simp] theorem bytes_5 : E.T.bytes 5 = 1 := by kernel_rfl
@[simp] theorem zero_5 : E.T.zero 5 = .int .u8 0 := by kernel_rfl
@[simp] theorem agg_5 : Tab.agg E.T 5 = false := by kernel_rfl
@[simp] theorem ok_17 : E.T.ok 17 = true := by kernel_rfl
@[simp] theorem desc_17 : E.T.desc 17 = TypeDesc.pointer 232 := by kernel_rfl
@[simp] theorem size_17 : E.T.size 17 = 1 := by kernel_rfl
@[simp] theorem bytes_17 : E.T.bytes 17 = 8 := by kernel_rfl
@[simp] theorem zero_17 : E.T.zero 17 = .nilp := by kernel_rfl
@[simp] theorem agg_17 : Tab.agg E.T 17 = false := by kernel_rfl
@[simp] theorem ok_22 : E.T.ok 22 = true := by kernel_rfl
@[simp] theorem desc_22 : E.T.desc 22 = TypeDesc.slice 5 := by kernel_rfl
@[simp] theorem size_22 : E.T.size 22 = 1 := by kernel_rfl
@[simp] theorem bytes_22 : E.T.bytes 22 = 24 := by kernel_rfl
@[simp] theorem zero_22 : E.T.zero 22 = .frz [] .nil := by kernel_rfl
@[simp] theorem elem_22 : elemOf? E.T 22 = some 5 := by kernel_rfl
@[simp] theorem agg_22 : Tab.agg E.T 22 = false := by kernel_rfl
@[simp] theorem ok_23 : E.T.ok 23 = true := by kernel_rfl
@[simp] theorem desc_23 : E.T.desc 23 = TypeDesc.slice 77 := by kernel_rfl
@[simp] theorem size_23 : E.T.size 23 = 1 := by kernel_rfl
@[simp] theorem bytes_23 : E.T.bytes 23 = 24 := by kernel_rfl
@[simp] theorem zero_23 : E.T.zero 23 = .frz [] .nil := by kernel_rfl
@[simp] theorem elem_23 : elemOf? E.T 23 = some 77 := by kernel_rfl
@[simp] theorem agg_23 : Tab.agg E.T 23 = false := by kernel_rfl
@[simp] theorem ok_31 : E.T.ok 31 = true := by kernel_rfl
@[simp] theorem desc_31 : E.T.desc 31 = TypeDesc.array 2 5 := by kernel_rfl
@[simp] theorem size_31 : E.T.size 31 = 2 := by kernel_rfl
@[simp] theorem bytes_31 : E.T.bytes 31 = 2 := by kernel_rfl
@[simp] theorem zero_31 : E.T.zero 31 = .agg [.int .u8 0, .int .u8 0] := by kernel_rfl
@[simp] theorem arr_31 : arrOf? E.T 31 = some (2, 5) := by kernel_rfl
@[simp] theorem agg_31 : Tab.agg E.T 31 = true := by kernel_rfl
@[simp] theorem ok_32 : E.T.ok 32 = true := by kernel_rfl
@[simp] theorem desc_32 : E.T.desc 32 = TypeDesc.slice 72 := by kernel_rfl
@[simp] theorem size_32 : E.T.size 32 = 1 := by kernel_rfl
@[simp] theorem bytes_32 : E.T.bytes 32 = 24 := by kernel_rfl
@[simp] theorem zero_32 : E.T.zero 32 = .frz [] .nil := by kernel_rfl
@[simp] theorem elem_32 : elemOf? E.T 32 = some 72 := by kernel_rfl
@[simp] theorem agg_32 : Tab.agg E.T 32 = false := by kernel_rfl
@[simp] theorem ok_34 : E.T.ok 34 = true := by kernel_rfl
@[simp] theorem desc_34 : E.T.desc 34 = TypeDesc.struct #[{ name := "Inputs", type := 3, offset := 0, embedded := false, tag := "", pkgPath := "", byteOffset := 0 }, { name := "Outputs", type := 3, offset := 1, embedded := false, tag := "", pkgPath := "", byteOffset := 8 }, { name := "Rows", type := 32, offset := 2, embedded := false, tag := "", pkgPath := "", byteOffset := 16 }] := by kernel_rfl
@[simp] theorem size_34 : E.T.size 34 = 3 := by kernel_rfl
@[simp] theorem bytes_34 : E.T.bytes 34 = 40 := by kernel_rfl
@[simp] theorem zero_34 : E.T.zero 34 = .agg [.int .i64 0, .int .i64 0, .frz [] .nil] := by kernel_rfl
@[simp] theorem agg_34 : Tab.agg E.T 34 = true := by kernel_rfl
@[simp] theorem field_34_0 : fieldOf E.T 34 0 = some { name := "Inputs", type := 3, offset := 0, embedded := false, tag := "", pkgPath := "", byteOffset := 0 } := by kernel_rfl
@[simp] theorem field_34_1 : fieldOf E.T 34 1 = some { name := "Outputs", type := 3, offset := 1, embedded := false, tag := "", pkgPath := "", byteOffset := 8 } := by kernel_rfl
@[simp] theorem field_34_2 : fieldOf E.T 34 2 = some { name := "Rows", type := 32, offset := 2, embedded := false, tag := "", pkgPath := "", byteOffset := 16 } := by kernel_rfl
@[simp] theorem ok_37 : E.T.ok 37 = true := by kernel_rfl
@[simp] theorem desc_37 : E.T.desc 37 = TypeDesc.slice 62 := by kernel_rfl
@[simp] theorem size_37 : E.T.size 37 = 1 := by kernel_rfl
@[simp] theorem bytes_37 : E.T.bytes 37 = 24 := by kernel_rfl
@[simp] theorem zero_37 : E.T.zero 37 = .frz [] .nil := by kernel_rfl
@[simp] theorem elem_37 : elemOf? E.T 37 = some 62 := by kernel_rfl
@[simp] theorem agg_37 : Tab.agg E.T 37 = false := by kernel_rfl
@[simp] theorem ok_40 : E.T.ok 40 = true := by kernel_rfl
@[simp] theorem desc_40 : E.T.desc 40 = TypeDesc.int IntKind.i64 := by kernel_rfl
@[simp] theorem size_40 : E.T.size 40 = 1 := by kernel_rfl
@[simp] theorem bytes_40 : E.T.bytes 40 = 8 := by kernel_rfl
@[simp] theorem zero_40 : E.T.zero 40 = .int .i64 0 := by kernel_rfl
@[simp] theorem agg_40 : Tab.agg E.T 40 = false := by kernel_rfl
@[simp] theorem ok_48 : E.T.ok 48 = true := by kernel_rfl
@[simp] theorem desc_48 : E.T.desc 48 = TypeDesc.func #[34, 3] #[3] false := by kernel_rfl
@[simp] theorem size_48 : E.T.size 48 = 1 := by kernel_rfl
@[simp] theorem bytes_48 : E.T.bytes 48 = 8 := by kernel_rfl
@[simp] theorem zero_48 : E.T.zero 48 = .nilfn := by kernel_rfl
@[simp] theorem agg_48 : Tab.agg E.T 48 = false := by kernel_rfl
@[simp] theorem ok_49 : E.T.ok 49 = true := by kernel_rfl
@[simp] theorem desc_49 : E.T.desc 49 = TypeDesc.func #[] #[4] false := by kernel_rfl
@[simp] theorem size_49 : E.T.size 49 = 1 := by kernel_rfl
@[simp] theorem bytes_49 : E.T.bytes 49 = 8 := by kernel_rfl
@[simp] theorem zero_49 : E.T.zero 49 = .nilfn := by kernel_rfl
@[simp] theorem agg_49 : Tab.agg E.T 49 = false := by kernel_rfl
@[simp] theorem ok_51 : E.T.ok 51 = true := by kernel_rfl
@[simp] theorem desc_51 : E.T.desc 51 = TypeDesc.func #[27, 30, 31] #[4] false := by kernel_rfl
@[simp] theorem size_51 : E.T.size 51 = 1 := by kernel_rfl
@[simp] theorem bytes_51 : E.T.bytes 51 = 8 := by kernel_rfl
@[simp] theorem zero_51 : E.T.zero 51 = .nilfn := by kernel_rfl
@[simp] theorem agg_51 : Tab.agg E.T 51 = false := by kernel_rfl
@[simp] theorem ok_52 : E.T.ok 52 = true := by kernel_rfl
@[simp] theorem desc_52 : E.T.desc 52 = TypeDesc.struct #[{ name := "States", type := 5, offset := 0, embedded := false, tag := "", pkgPath := "", byteOffset := 0 }, { name := "Inputs", type := 5, offset := 1, embedded := false, tag := "", pkgPath := "", byteOffset := 1 }, { name := "Outputs", type := 5, offset := 2, embedded := false, tag := "", pkgPath := "", byteOffset := 2 }, { name := "Partial", type := 4, offset := 3, embedded := false, tag := "", pkgPath := "", byteOffset := 3 }, { name := "Edges", type := 23, offset := 4, embedded := false, tag := "", pkgPath := "", byteOffset := 8 }] := by kernel_rfl
@[simp] theorem size_52 : E.T.size 52 = 5 := by kernel_rfl
@[simp] theorem bytes_52 : E.T.bytes 52 = 32 := by kernel_rfl
@[simp] theorem zero_52 : E.T.zero 52 = .agg [.int .u8 0, .int .u8 0, .int .u8 0, .bool false, .frz [] .nil] := by kernel_rfl
@[simp] theorem agg_52 : Tab.agg E.T 52 = true := by kernel_rfl
@[simp] theorem field_52_0 : fieldOf E.T 52 0 = some { name := "States", type := 5, offset := 0, embedded := false, tag := "", pkgPath := "", byteOffset := 0 } := by kernel_rfl
@[simp] theorem field_52_1 : fieldOf E.T 52 1 = some { name := "Inputs", type := 5, offset := 1, embedded := false, tag := "", pkgPath := "", byteOffset := 1 } := by kernel_rfl
@[simp] theorem field_52_2 : fieldOf E.T 52 2 = some { name := "Outputs", type := 5, offset := 2, embedded := false, tag := "", pkgPath := "", byteOffset := 2 } := by kernel_rfl
@[simp] theorem field_52_3 : fieldOf E.T 52 3 = some { name := "Partial", type := 4, offset := 3, embedded := false, tag := "", pkgPath := "", byteOffset := 3 } := by kernel_rfl
@[simp] theorem field_52_4 : fieldOf E.T 52 4 = some { name := "Edges", type := 23, offset := 4, embedded := false, tag := "", pkgPath := "", byteOffset := 8 } := by kernel_rfl
@[simp] theorem ok_53 : E.T.ok 53 = true := by kernel_rfl
@[simp] theorem desc_53 : E.T.desc 53 = TypeDesc.struct #[{ name := "States", type := 5, offset := 0, embedded := false, tag := "", pkgPath := "", byteOffset := 0 }, { name := "Inputs", type := 5, offset := 1, embedded := false, tag := "", pkgPath := "", byteOffset := 1 }, { name := "Outputs", type := 5, offset := 2, embedded := false, tag := "", pkgPath := "", byteOffset := 2 }, { name := "Partial", type := 4, offset := 3, embedded := false, tag := "", pkgPath := "", byteOffset := 3 }, { name := "Edges", type := 23, offset := 4, embedded := false, tag := "", pkgPath := "", byteOffset := 8 }] := by kernel_rfl
@[simp] theorem size_53 : E.T.size 53 = 5 := by kernel_rfl
@[simp] theorem bytes_53 : E.T.bytes 53 = 32 := by kernel_rfl
@[simp] theorem zero_53 : E.T.zero 53 = .agg [.int .u8 0, .int .u8 0, .int .u8 0, .bool false, .frz [] .nil] := by kernel_rfl
@[simp] theorem agg_53 : Tab.agg E.T 53 = true := by kernel_rfl
@[simp] theorem field_53_0 : fieldOf E.T 53 0 = some { name := "States", type := 5, offset := 0, embedded := false, tag := "", pkgPath := "", byteOffset := 0 } := by kernel_rfl
@[simp] theorem field_53_1 : fieldOf E.T 53 1 = some { name := "Inputs", type := 5, offset := 1, embedded := false, tag := "", pkgPath := "", byteOffset := 1 } := by kernel_rfl
@[simp] theorem field_53_2 : fieldOf E.T 53 2 = some { name := "Outputs", type := 5, offset := 2, embedded := false, tag := "", pkgPath := "", byteOffset := 2 } := by kernel_rfl
@[simp] theorem field_53_3 : fieldOf E.T 53 3 = some { name := "Partial", type := 4, offset := 3, embedded := false, tag := "", pkgPath := "", byteOffset := 3 } := by kernel_rfl
@[simp] theorem field_53_4 : fieldOf E.T 53 4 = some { name := "Edges", type := 23, offset := 4, embedded := false, tag := "", pkgPath := "", byteOffset := 8 } := by kernel_rfl
@[simp] theorem ok_55 : E.T.ok 55 = true := by kernel_rfl
@[simp] theorem desc_55 : E.T.desc 55 = TypeDesc.struct #[{ name := "To", type := 3, offset := 0, embedded := false, tag := "", pkgPath := "", byteOffset := 0 }, { name := "Out", type := 3, offset := 1, embedded := false, tag := "", pkgPath := "", byteOffset := 8 }] := by kernel_rfl
@[simp] theorem size_55 : E.T.size 55 = 2 := by kernel_rfl
@[simp] theorem bytes_55 : E.T.bytes 55 = 16 := by kernel_rfl
@[simp] theorem zero_55 : E.T.zero 55 = .agg [.int .i64 0, .int .i64 0] := by kernel_rfl
@[simp] theorem agg_55 : Tab.agg E.T 55 = true := by kernel_rfl
@[simp] theorem field_55_0 : fieldOf E.T 55 0 = some { name := "To", type := 3, offset := 0, embedded := false, tag := "", pkgPath := "", byteOffset := 0 } := by kernel_rfl
@[simp] theorem field_55_1 : fieldOf E.T 55 1 = some { name := "Out", type := 3, offset := 1, embedded := false, tag := "", pkgPath := "", byteOffset := 8 } := by kernel_rfl
@[simp] theorem ok_57 : E.T.ok 57 = true := by kernel_rfl
@[simp] theorem desc_57 : E.T.desc 57 = TypeDesc.struct #[{ name := "M", type := 53, offset := 0, embedded := false, tag := "", pkgPath := "", byteOffset := 0 }, { name := "X", type := 53, offset := 5, embedded := false, tag := "", pkgPath := "", byteOffset := 32 }, { name := "Alike", type := 4, offset := 10, embedded := false, tag := "", pkgPath := "", byteOffset := 64 }, { name := "Swap", type := 31, offset := 11, embedded := false, tag := "", pkgPath := "", byteOffset := 65 }, { name := "Place", type := 31, offset := 13, embedded := false, tag := "", pkgPath := "", byteOffset := 67 }, { name := "To", type := 55, offset := 15, embedded := false, tag := "", pkgPath := "", byteOffset := 72 }] := by kernel_rfl
@[simp] theorem size_57 : E.T.size 57 = 17 := by kernel_rfl
@[simp] theorem bytes_57 : E.T.bytes 57 = 88 := by kernel_rfl
@[simp] theorem zero_57 : E.T.zero 57 = .agg [.int .u8 0, .int .u8 0, .int .u8 0, .bool false, .frz [] .nil, .int .u8 0, .int .u8 0, .int .u8 0, .bool false, .frz [] .nil, .bool false, .int .u8 0, .int .u8 0, .int .u8 0, .int .u8 0, .int .i64 0, .int .i64 0] := by kernel_rfl
@[simp] theorem agg_57 : Tab.agg E.T 57 = true := by kernel_rfl
@[simp] theorem field_57_0 : fieldOf E.T 57 0 = some { name := "M", type := 53, offset := 0, embedded := false, tag := "", pkgPath := "", byteOffset := 0 } := by kernel_rfl
@[simp] theorem field_57_1 : fieldOf E.T 57 1 = some { name := "X", type := 53, offset := 5, embedded := false, tag := "", pkgPath := "", byteOffset := 32 } := by kernel_rfl
@[simp] theorem field_57_2 : fieldOf E.T 57 2 = some { name := "Alike", type := 4, offset := 10, embedded := false, tag := "", pkgPath := "", byteOffset := 64 } := by kernel_rfl
@[simp] theorem field_57_3 : fieldOf E.T 57 3 = some { name := "Swap", type := 31, offset := 11, embedded := false, tag := "", pkgPath := "", byteOffset := 65 } := by kernel_rfl
@[simp] theorem field_57_4 : fieldOf E.T 57 4 = some { name := "Place", type := 31, offset := 13, embedded := false, tag := "", pkgPath := "", byteOffset := 67 } := by kernel_rfl
@[simp] theorem field_57_5 : fieldOf E.T 57 5 = some { name := "To", type := 55, offset := 15, embedded := false, tag := "", pkgPath := "", byteOffset := 72 } := by kernel_rfl
@[simp] theorem ok_59 : E.T.ok 59 = true := by kernel_rfl
@[simp] theorem desc_59 : E.T.desc 59 = TypeDesc.struct #[{ name := "Symbols", type := 22, offset := 0, embedded := false, tag := "", pkgPath := "", byteOffset := 0 }] := by kernel_rfl
@[simp] theorem size_59 : E.T.size 59 = 1 := by kernel_rfl
@[simp] theorem bytes_59 : E.T.bytes 59 = 24 := by kernel_rfl
@[simp] theorem zero_59 : E.T.zero 59 = .agg [.frz [] .nil] := by kernel_rfl
@[simp] theorem agg_59 : Tab.agg E.T 59 = true := by kernel_rfl
@[simp] theorem field_59_0 : fieldOf E.T 59 0 = some { name := "Symbols", type := 22, offset := 0, embedded := false, tag := "", pkgPath := "", byteOffset := 0 } := by kernel_rfl
@[simp] theorem ok_62 : E.T.ok 62 = true := by kernel_rfl
@[simp] theorem desc_62 : E.T.desc 62 = TypeDesc.slice 3 := by kernel_rfl
@[simp] theorem size_62 : E.T.size 62 = 1 := by kernel_rfl
@[simp] theorem bytes_62 : E.T.bytes 62 = 24 := by kernel_rfl
@[simp] theorem zero_62 : E.T.zero 62 = .frz [] .nil := by kernel_rfl
@[simp] theorem elem_62 : elemOf? E.T 62 = some 3 := by kernel_rfl
@[simp] theorem agg_62 : Tab.agg E.T 62 = false := by kernel_rfl
@[simp] theorem ok_72 : E.T.ok 72 = true := by kernel_rfl
@[simp] theorem desc_72 : E.T.desc 72 = TypeDesc.slice 55 := by kernel_rfl
@[simp] theorem size_72 : E.T.size 72 = 1 := by kernel_rfl
@[simp] theorem bytes_72 : E.T.bytes 72 = 24 := by kernel_rfl
@[simp] theorem zero_72 : E.T.zero 72 = .frz [] .nil := by kernel_rfl
@[simp] theorem elem_72 : elemOf? E.T 72 = some 55 := by kernel_rfl
@[simp] theorem agg_72 : Tab.agg E.T 72 = false := by kernel_rfl
@[simp] theorem ok_74 : E.T.ok 74 = true := by kernel_rfl
@[simp] theorem desc_74 : E.T.desc 74 = TypeDesc.func #[34, 34] #[62, 4, 40] false := by kernel_rfl
@[simp] theorem size_74 : E.T.size 74 = 1 := by kernel_rfl
@[simp] theorem bytes_74 : E.T.bytes 74 = 8 := by kernel_rfl
@[simp] theorem zero_74 : E.T.zero 74 = .nilfn := by kernel_rfl
@[simp] theorem agg_74 : Tab.agg E.T 74 = false := by kernel_rfl
@[simp] theorem ok_76 : E.T.ok 76 = true := by kernel_rfl
@[simp] theorem desc_76 : E.T.desc 76 = TypeDesc.slice 105 := by kernel_rfl
@[simp] theorem size_76 : E.T.size 76 = 1 := by kernel_rfl
@[simp] theorem bytes_76 : E.T.bytes 76 = 24 := by kernel_rfl
@[simp] theorem zero_76 : E.T.zero 76 = .frz [] .nil := by kernel_rfl
@[simp] theorem elem_76 : elemOf? E.T 76 = some 105 := by kernel_rfl
@[simp] theorem agg_76 : Tab.agg E.T 76 = false := by kernel_rfl
@[simp] theorem ok_77 : E.T.ok 77 = true := by kernel_rfl
@[simp] theorem desc_77 : E.T.desc 77 = TypeDesc.int IntKind.u16 := by kernel_rfl
@[simp] theorem size_77 : E.T.size 77 = 1 := by kernel_rfl
@[simp] theorem bytes_77 : E.T.bytes 77 = 2 := by kernel_rfl
@[simp] theorem zero_77 : E.T.zero 77 = .int .u16 0 := by kernel_rfl
@[simp] theorem agg_77 : Tab.agg E.T 77 = false := by kernel_rfl
@[simp] theorem ok_78 : E.T.ok 78 = true := by kernel_rfl
@[simp] theorem desc_78 : E.T.desc 78 = TypeDesc.func #[57] #[4] false := by kernel_rfl
@[simp] theorem size_78 : E.T.size 78 = 1 := by kernel_rfl
@[simp] theorem bytes_78 : E.T.bytes 78 = 8 := by kernel_rfl
@[simp] theorem zero_78 : E.T.zero 78 = .nilfn := by kernel_rfl
@[simp] theorem agg_78 : Tab.agg E.T 78 = false := by kernel_rfl
@[simp] theorem ok_79 : E.T.ok 79 = true := by kernel_rfl
@[simp] theorem desc_79 : E.T.desc 79 = TypeDesc.func #[57, 3] #[4] false := by kernel_rfl
@[simp] theorem size_79 : E.T.size 79 = 1 := by kernel_rfl
@[simp] theorem bytes_79 : E.T.bytes 79 = 8 := by kernel_rfl
@[simp] theorem zero_79 : E.T.zero 79 = .nilfn := by kernel_rfl
@[simp] theorem agg_79 : Tab.agg E.T 79 = false := by kernel_rfl
@[simp] theorem ok_87 : E.T.ok 87 = true := by kernel_rfl
@[simp] theorem desc_87 : E.T.desc 87 = TypeDesc.func #[3] #[] false := by kernel_rfl
@[simp] theorem size_87 : E.T.size 87 = 1 := by kernel_rfl
@[simp] theorem bytes_87 : E.T.bytes 87 = 8 := by kernel_rfl
@[simp] theorem zero_87 : E.T.zero 87 = .nilfn := by kernel_rfl
@[simp] theorem agg_87 : Tab.agg E.T 87 = false := by kernel_rfl
@[simp] theorem ok_98 : E.T.ok 98 = true := by kernel_rfl
@[simp] theorem desc_98 : E.T.desc 98 = TypeDesc.func #[34] #[3] false := by kernel_rfl
@[simp] theorem size_98 : E.T.size 98 = 1 := by kernel_rfl
@[simp] theorem bytes_98 : E.T.bytes 98 = 8 := by kernel_rfl
@[simp] theorem zero_98 : E.T.zero 98 = .nilfn := by kernel_rfl
@[simp] theorem agg_98 : Tab.agg E.T 98 = false := by kernel_rfl
@[simp] theorem ok_105 : E.T.ok 105 = true := by kernel_rfl
@[simp] theorem desc_105 : E.T.desc 105 = TypeDesc.array 2 3 := by kernel_rfl
@[simp] theorem size_105 : E.T.size 105 = 2 := by kernel_rfl
@[simp] theorem bytes_105 : E.T.bytes 105 = 16 := by kernel_rfl
@[simp] theorem zero_105 : E.T.zero 105 = .agg [.int .i64 0, .int .i64 0] := by kernel_rfl
@[simp] theorem arr_105 : arrOf? E.T 105 = some (2, 3) := by kernel_rfl
@[simp] theorem agg_105 : Tab.agg E.T 105 = true := by kernel_rfl
@[simp] theorem ok_111 : E.T.ok 111 = true := by kernel_rfl
@[simp] theorem desc_111 : E.T.desc 111 = TypeDesc.map 105 4 := by kernel_rfl
@[simp] theorem size_111 : E.T.size 111 = 1 := by kernel_rfl
@[simp] theorem bytes_111 : E.T.bytes 111 = 8 := by kernel_rfl
@[simp] theorem zero_111 : E.T.zero 111 = .nilm := by kernel_rfl
@[simp] theorem map_111 : mapOf? E.T 111 = some (105, 4) := by kernel_rfl
@[simp] theorem agg_111 : Tab.agg E.T 111 = false := by kernel_rfl
@[simp] theorem ok_122 : E.T.ok 122 = true := by kernel_rfl
@[simp] theorem desc_122 : E.T.desc 122 = TypeDesc.func #[34, 34, 62] #[3] false := by kernel_rfl
@[simp] theorem size_122 : E.T.size 122 = 1 := by kernel_rfl
@[simp] theorem bytes_122 : E.T.bytes 122 = 8 := by kernel_rfl
@[simp] theorem zero_122 : E.T.zero 122 = .nilfn := by kernel_rfl
@[simp] theorem agg_122 : Tab.agg E.T 122 = false := by kernel_rfl
@[simp] theorem ok_123 : E.T.ok 123 = true := by kernel_rfl
@[simp] theorem desc_123 : E.T.desc 123 = TypeDesc.slice 4 := by kernel_rfl
@[simp] theorem size_123 : E.T.size 123 = 1 := by kernel_rfl
@[simp] theorem bytes_123 : E.T.bytes 123 = 24 := by kernel_rfl
@[simp] theorem zero_123 : E.T.zero 123 = .frz [] .nil := by kernel_rfl
@[simp] theorem elem_123 : elemOf? E.T 123 = some 4 := by kernel_rfl
@[simp] theorem agg_123 : Tab.agg E.T 123 = false := by kernel_rfl
@[simp] theorem ok_127 : E.T.ok 127 = true := by kernel_rfl
@[simp] theorem desc_127 : E.T.desc 127 = TypeDesc.slice 123 := by kernel_rfl
@[simp] theorem size_127 : E.T.size 127 = 1 := by kernel_rfl
@[simp] theorem bytes_127 : E.T.bytes 127 = 24 := by kernel_rfl
@[simp] theorem zero_127 : E.T.zero 127 = .frz [] .nil := by kernel_rfl
@[simp] theorem elem_127 : elemOf? E.T 127 = some 123 := by kernel_rfl
@[simp] theorem agg_127 : Tab.agg E.T 127 = false := by kernel_rfl
@[simp] theorem ok_139 : E.T.ok 139 = true := by kernel_rfl
@[simp] theorem desc_139 : E.T.desc 139 = TypeDesc.struct #[{ name := "at", type := 3, offset := 0, embedded := false, tag := "", pkgPath := "gauntlet/equals", byteOffset := 0 }, { name := "input", type := 3, offset := 1, embedded := false, tag := "", pkgPath := "gauntlet/equals", byteOffset := 8 }, { name := "x", type := 55, offset := 2, embedded := false, tag := "", pkgPath := "gauntlet/equals", byteOffset := 16 }, { name := "y", type := 55, offset := 4, embedded := false, tag := "", pkgPath := "gauntlet/equals", byteOffset := 32 }] := by kernel_rfl
@[simp] theorem size_139 : E.T.size 139 = 6 := by kernel_rfl
@[simp] theorem bytes_139 : E.T.bytes 139 = 48 := by kernel_rfl
@[simp] theorem zero_139 : E.T.zero 139 = .agg [.int .i64 0, .int .i64 0, .int .i64 0, .int .i64 0, .int .i64 0, .int .i64 0] := by kernel_rfl
@[simp] theorem agg_139 : Tab.agg E.T 139 = true := by kernel_rfl
@[simp] theorem field_139_0 : fieldOf E.T 139 0 = some { name := "at", type := 3, offset := 0, embedded := false, tag := "", pkgPath := "gauntlet/equals", byteOffset := 0 } := by kernel_rfl
@[simp] theorem field_139_1 : fieldOf E.T 139 1 = some { name := "input", type := 3, offset := 1, embedded := false, tag := "", pkgPath := "gauntlet/equals", byteOffset := 8 } := by kernel_rfl
@[simp] theorem field_139_2 : fieldOf E.T 139 2 = some { name := "x", type := 55, offset := 2, embedded := false, tag := "", pkgPath := "gauntlet/equals", byteOffset := 16 } := by kernel_rfl
@[simp] theorem field_139_3 : fieldOf E.T 139 3 = some { name := "y", type := 55, offset := 4, embedded := false, tag := "", pkgPath := "gauntlet/equals", byteOffset := 32 } := by kernel_rfl
@[simp] theorem ok_140 : E.T.ok 140 = true := by kernel_rfl
@[simp] theorem desc_140 : E.T.desc 140 = TypeDesc.slice 166 := by kernel_rfl
@[simp] theorem size_140 : E.T.size 140 = 1 := by kernel_rfl
@[simp] theorem bytes_140 : E.T.bytes 140 = 24 := by kernel_rfl
@[simp] theorem zero_140 : E.T.zero 140 = .frz [] .nil := by kernel_rfl
@[simp] theorem elem_140 : elemOf? E.T 140 = some 166 := by kernel_rfl
@[simp] theorem agg_140 : Tab.agg E.T 140 = false := by kernel_rfl
@[simp] theorem ok_160 : E.T.ok 160 = true := by kernel_rfl
@[simp] theorem desc_160 : E.T.desc 160 = TypeDesc.slice 40 := by kernel_rfl
@[simp] theorem size_160 : E.T.size 160 = 1 := by kernel_rfl
@[simp] theorem bytes_160 : E.T.bytes 160 = 24 := by kernel_rfl
@[simp] theorem zero_160 : E.T.zero 160 = .frz [] .nil := by kernel_rfl
@[simp] theorem elem_160 : elemOf? E.T 160 = some 40 := by kernel_rfl
@[simp] theorem agg_160 : Tab.agg E.T 160 = false := by kernel_rfl
@[simp] theorem ok_163 : E.T.ok 163 = true := by kernel_rfl
@[simp] theorem desc_163 : E.T.desc 163 = TypeDesc.func #[55] #[4] false := by kernel_rfl
@[simp] theorem size_163 : E.T.size 163 = 1 := by kernel_rfl
@[simp] theorem bytes_163 : E.T.bytes 163 = 8 := by kernel_rfl
@[simp] theorem zero_163 : E.T.zero 163 = .nilfn := by kernel_rfl
@[simp] theorem agg_163 : Tab.agg E.T 163 = false := by kernel_rfl
@[simp] theorem ok_166 : E.T.ok 166 = true := by kernel_rfl
@[simp] theorem desc_166 : E.T.desc 166 = TypeDesc.struct #[{ name := "pair", type := 105, offset := 0, embedded := false, tag := "", pkgPath := "gauntlet/equals", byteOffset := 0 }, { name := "from", type := 3, offset := 2, embedded := false, tag := "", pkgPath := "gauntlet/equals", byteOffset := 16 }, { name := "input", type := 3, offset := 3, embedded := false, tag := "", pkgPath := "gauntlet/equals", byteOffset := 24 }] := by kernel_rfl
@[simp] theorem size_166 : E.T.size 166 = 4 := by kernel_rfl
@[simp] theorem bytes_166 : E.T.bytes 166 = 32 := by kernel_rfl
@[simp] theorem zero_166 : E.T.zero 166 = .agg [.int .i64 0, .int .i64 0, .int .i64 0, .int .i64 0] := by kernel_rfl
@[simp] theorem agg_166 : Tab.agg E.T 166 = true := by kernel_rfl
@[simp] theorem field_166_0 : fieldOf E.T 166 0 = some { name := "pair", type := 105, offset := 0, embedded := false, tag := "", pkgPath := "gauntlet/equals", byteOffset := 0 } := by kernel_rfl
@[simp] theorem field_166_1 : fieldOf E.T 166 1 = some { name := "from", type := 3, offset := 2, embedded := false, tag := "", pkgPath := "gauntlet/equals", byteOffset := 16 } := by kernel_rfl
@[simp] theorem field_166_2 : fieldOf E.T 166 2 = some { name := "input", type := 3, offset := 3, embedded := false, tag := "", pkgPath := "gauntlet/equals", byteOffset := 24 } := by kernel_rfl
end Go.Eng.E3

namespace Go.Eng.E3
open Go Go.Eng Go.Proofs
set_option maxRecDepth 100000

/-! ### 48: (gauntlet/gauntletlaw04.M).Of -/
noncomputable def r48_0 : Code := navF Try.f48 [0]
noncomputable def o48_0 : List Oper := [sop (some 1) (.box 53 (.tmp 0)) none,
    sop (some 2) (.alloc 34) none]
theorem xr48_0 : Xr 48 87 r48_0 o48_0 [] := execI_reg' (by kernel_rfl)
noncomputable def r48_1 : Code := navF Try.f48 [1, 0]
noncomputable def o48_1 : List Oper := [sop (some 10) (.fieldAddr 53 (.tmp 1) 0) none,
    sop (some 11) (.load 5 (.tmp 10)) none,
    sop (some 12) (.binOp .rem 5 (.tmp 11) (.const (.int .u8 6)) 5) none,
    sop (some 13) (.convert 5 3 (.tmp 12)) none,
    sop (some 14) (.binOp .add 3 (.const (.int .i64 1)) (.tmp 13) 3) none,
    sop (some 3) (.assign (.tmp 14)) none]
theorem xr48_1 : Xr 48 87 r48_1 o48_1 [] := execI_reg' (by kernel_rfl)
noncomputable def r48_2 : Code := navF Try.f48 [1, 1, 0]
noncomputable def o48_2 : List Oper := [sop (some 15) (.fieldAddr 53 (.tmp 1) 1) none,
    sop (some 16) (.load 5 (.tmp 15)) none,
    sop (some 17) (.binOp .rem 5 (.tmp 16) (.const (.int .u8 3)) 5) none,
    sop (some 18) (.convert 5 3 (.tmp 17)) none,
    sop (some 19) (.binOp .add 3 (.const (.int .i64 1)) (.tmp 18) 3) none,
    sop (some 20) (.fieldAddr 53 (.tmp 1) 2) none,
    sop (some 21) (.load 5 (.tmp 20)) none,
    sop (some 22) (.binOp .rem 5 (.tmp 21) (.const (.int .u8 3)) 5) none,
    sop (some 23) (.convert 5 3 (.tmp 22)) none,
    sop (some 24) (.binOp .add 3 (.const (.int .i64 1)) (.tmp 23) 3) none,
    sop (some 25) (.build 34 #[(0, (.tmp 19)), (1, (.tmp 24))]) none,
    sop (some 4) (.alloc 34) none,
    sop none (.store 34 (.tmp 4) (.tmp 25)) none]
theorem xr48_2 : Xr 48 87 r48_2 o48_2 [] := execI_reg' (by kernel_rfl)
noncomputable def r48_3 : Code := navF Try.f48 [1, 1, 1, 0, 0]
noncomputable def o48_3 : List Oper := [sop (some 5) (.assign (.const (.int .i64 0))) none]
theorem xr48_3 : Xr 48 87 r48_3 o48_3 [] := execI_reg' (by kernel_rfl)
noncomputable def l48_0 : Code := navF Try.f48 [1, 1, 1, 0, 1, 0, 0]
noncomputable def r48_4 : Code := navF Try.f48 [1, 1, 1, 0, 1, 0, 0, 0, 0]
noncomputable def o48_4 : List Oper := [sop (some 26) (.move (.tmp 5)) none,
    sop (some 27) (.move (.tmp 3)) none,
    sop (some 28) (.binOp .lss 3 (.tmp 26) (.tmp 27) 3) none]
theorem xr48_4 : Xr 48 87 r48_4 o48_4 [] := execI_reg' (by kernel_rfl)
noncomputable def r48_6 : Code := navF Try.f48 [1, 1, 1, 0, 1, 0, 0, 1, 0, 0, 0]
noncomputable def o48_6 : List Oper := [sop (some 6) (.assign (.const (.slice none 0 0))) none]
theorem xr48_6 : Xr 48 87 r48_6 o48_6 [] := execI_reg' (by kernel_rfl)
noncomputable def r48_7 : Code := navF Try.f48 [1, 1, 1, 0, 1, 0, 0, 1, 0, 0, 1, 0, 0]
noncomputable def o48_7 : List Oper := [sop (some 7) (.assign (.const (.int .i64 0))) none]
theorem xr48_7 : Xr 48 87 r48_7 o48_7 [] := execI_reg' (by kernel_rfl)
noncomputable def l48_1 : Code := navF Try.f48 [1, 1, 1, 0, 1, 0, 0, 1, 0, 0, 1, 0, 1, 0, 0]
noncomputable def r48_8 : Code := navF Try.f48 [1, 1, 1, 0, 1, 0, 0, 1, 0, 0, 1, 0, 1, 0, 0, 0, 0]
noncomputable def o48_8 : List Oper := [sop (some 31) (.move (.tmp 7)) none,
    sop (some 32) (.fieldAddr 34 (.tmp 4) 0) none,
    sop (some 33) (.load 3 (.tmp 32)) none,
    sop (some 34) (.binOp .lss 3 (.tmp 31) (.tmp 33) 3) none]
theorem xr48_8 : Xr 48 87 r48_8 o48_8 [] := execI_reg' (by kernel_rfl)
noncomputable def r48_10 : Code := navF Try.f48 [1, 1, 1, 0, 1, 0, 0, 1, 0, 0, 1, 0, 1, 0, 0, 1, 0, 0, 0]
noncomputable def o48_10 : List Oper := [sop (some 8) (.assign (.const (.int .i64 0))) none]
theorem xr48_10 : Xr 48 87 r48_10 o48_10 [] := execI_reg' (by kernel_rfl)
noncomputable def r48_11 : Code := navF Try.f48 [1, 1, 1, 0, 1, 0, 0, 1, 0, 0, 1, 0, 1, 0, 0, 1, 0, 0, 1, 0, 0]
noncomputable def o48_11 : List Oper := [sop (some 37) (.move (.tmp 5)) none,
    sop (some 38) (.fieldAddr 34 (.tmp 4) 0) none,
    sop (some 39) (.load 3 (.tmp 38)) none,
    sop (some 40) (.binOp .mul 3 (.tmp 37) (.tmp 39) 3) none,
    sop (some 41) (.move (.tmp 7)) none,
    sop (some 42) (.binOp .add 3 (.tmp 40) (.tmp 41) 3) none,
    sop (some 9) (.assign (.tmp 42)) none]
theorem xr48_11 : Xr 48 87 r48_11 o48_11 [] := execI_reg' (by kernel_rfl)
noncomputable def r48_12 : Code := navF Try.f48 [1, 1, 1, 0, 1, 0, 0, 1, 0, 0, 1, 0, 1, 0, 0, 1, 0, 0, 1, 0, 1, 0]
noncomputable def o48_12 : List Oper := [sop (some 43) (.move (.tmp 9)) none,
    sop (some 44) (.fieldAddr 53 (.tmp 1) 4) none,
    sop (some 45) (.load 23 (.tmp 44)) none,
    sop (some 46) (.call { callee := (.builtin .len), args := #[(.tmp 45)], argTypes := #[23] }) none,
    sop (some 47) (.binOp .lss 3 (.tmp 43) (.tmp 46) 3) none]
theorem xr48_12 : Xr 48 87 r48_12 o48_12 [] := execI_reg' (by kernel_rfl)
noncomputable def r48_13 : Code := navF Try.f48 [1, 1, 1, 0, 1, 0, 0, 1, 0, 0, 1, 0, 1, 0, 0, 1, 0, 0, 1, 0, 1, 1, 0]
noncomputable def o48_13 : List Oper := [sop (some 48) (.fieldAddr 53 (.tmp 1) 4) none,
    sop (some 49) (.load 23 (.tmp 48)) none,
    sop (some 50) (.move (.tmp 9)) none,
    sop (some 51) (.indexAddr 23 (.tmp 49) (.tmp 50)) none,
    sop (some 52) (.load 77 (.tmp 51)) none,
    sop (some 53) (.convert 77 3 (.tmp 52)) none,
    sop (some 8) (.assign (.tmp 53)) none]
theorem xr48_13 : Xr 48 87 r48_13 o48_13 [] := execI_reg' (by kernel_rfl)
noncomputable def r48_14 : Code := navF Try.f48 [1, 1, 1, 0, 1, 0, 0, 1, 0, 0, 1, 0, 1, 0, 0, 1, 0, 0, 1, 1, 0]
noncomputable def o48_14 : List Oper := [sop (some 54) (.fieldAddr 53 (.tmp 1) 3) none,
    sop (some 55) (.load 4 (.tmp 54)) none,
    sop (some 56) (.move (.tmp 55)) none,
    sop (some 57) (.move (.tmp 8)) (some (2, true)),
    sop (some 58) (.binOp .rem 3 (.tmp 57) (.const (.int .i64 4)) 3) (some (2, true)),
    sop (some 59) (.binOp .eql 3 (.tmp 58) (.const (.int .i64 3)) 3) (some (2, true)),
    sop (some 60) (.pick (.tmp 56) (.tmp 59) (.const (.bool false))) none]
theorem xr48_14 : Xr 48 87 r48_14 o48_14 [] := execI_reg' (by kernel_rfl)
noncomputable def r48_15 : Code := navF Try.f48 [1, 1, 1, 0, 1, 0, 0, 1, 0, 0, 1, 0, 1, 0, 0, 1, 0, 0, 1, 1, 1, 0]
noncomputable def o48_15 : List Oper := [sop (some 61) (.move (.tmp 6)) none,
    sop (some 62) (.build 55 #[(0, (.const (.int .i64 (-1)))), (1, (.const (.int .i64 (-1))))]) none,
    sop (some 63) (.buildSlice 72 1 #[(0, (.tmp 62))]) none,
    sop (some 64) (.call { callee := (.builtin .append), args := #[(.tmp 61), (.tmp 63)], argTypes := #[72, 72] }) none,
    sop (some 6) (.assign (.tmp 64)) none]
theorem xr48_15 : Xr 48 87 r48_15 o48_15 [] := execI_reg' (by kernel_rfl)
noncomputable def r48_16 : Code := navF Try.f48 [1, 1, 1, 0, 1, 0, 0, 1, 0, 0, 1, 0, 1, 0, 0, 1, 0, 0, 1, 1, 1, 1]
noncomputable def o48_16 : List Oper := [sop (some 65) (.move (.tmp 6)) none,
    sop (some 66) (.move (.tmp 8)) none,
    sop (some 67) (.binOp .quo 3 (.tmp 66) (.const (.int .i64 4)) 3) none,
    sop (some 68) (.move (.tmp 3)) none,
    sop (some 69) (.binOp .rem 3 (.tmp 67) (.tmp 68) 3) none,
    sop (some 70) (.move (.tmp 8)) none,
    sop (some 71) (.binOp .quo 3 (.tmp 70) (.const (.int .i64 4)) 3) none,
    sop (some 72) (.move (.tmp 3)) none,
    sop (some 73) (.binOp .quo 3 (.tmp 71) (.tmp 72) 3) none,
    sop (some 74) (.fieldAddr 34 (.tmp 4) 1) none,
    sop (some 75) (.load 3 (.tmp 74)) none,
    sop (some 76) (.binOp .rem 3 (.tmp 73) (.tmp 75) 3) none,
    sop (some 77) (.build 55 #[(0, (.tmp 69)), (1, (.tmp 76))]) none,
    sop (some 78) (.buildSlice 72 1 #[(0, (.tmp 77))]) none,
    sop (some 79) (.call { callee := (.builtin .append), args := #[(.tmp 65), (.tmp 78)], argTypes := #[72, 72] }) none,
    sop (some 6) (.assign (.tmp 79)) none]
theorem xr48_16 : Xr 48 87 r48_16 o48_16 [] := execI_reg' (by kernel_rfl)
noncomputable def r48_9 : Code := navF Try.f48 [1, 1, 1, 0, 1, 0, 0, 1, 0, 0, 1, 0, 1, 0, 0, 1, 1]
noncomputable def o48_9 : List Oper := [sop (some 35) (.move (.tmp 7)) none,
    sop (some 36) (.binOp .add 3 (.tmp 35) (.const (.int .i64 1)) 3) none,
    sop (some 7) (.assign (.tmp 36)) none]
theorem xr48_9 : Xr 48 87 r48_9 o48_9 [] := execI_reg' (by kernel_rfl)
theorem cl48_1 : l48_1 = (.seq (.seq r48_8 (.cond (.tmp 34) .skip (.exit 2))) (.seq (.block 3 (.seq r48_10 (.seq (.seq r48_11 (.seq r48_12 (.cond (.tmp 47) r48_13 .skip))) (.seq r48_14 (.cond (.tmp 60) r48_15 r48_16))))) r48_9)) := by kernel_rfl
noncomputable def r48_17 : Code := navF Try.f48 [1, 1, 1, 0, 1, 0, 0, 1, 0, 0, 1, 1]
noncomputable def o48_17 : List Oper := [sop (some 80) (.fieldAddr 34 (.tmp 4) 2) none,
    sop (some 81) (.load 32 (.tmp 80)) none,
    sop (some 82) (.move (.tmp 6)) none,
    sop (some 83) (.buildSlice 32 1 #[(0, (.tmp 82))]) none,
    sop (some 84) (.call { callee := (.builtin .append), args := #[(.tmp 81), (.tmp 83)], argTypes := #[32, 32] }) none,
    sop (some 85) (.fieldAddr 34 (.tmp 4) 2) none,
    sop none (.store 32 (.tmp 85) (.tmp 84)) none]
theorem xr48_17 : Xr 48 87 r48_17 o48_17 [] := execI_reg' (by kernel_rfl)
noncomputable def r48_5 : Code := navF Try.f48 [1, 1, 1, 0, 1, 0, 0, 1, 1]
noncomputable def o48_5 : List Oper := [sop (some 29) (.move (.tmp 5)) none,
    sop (some 30) (.binOp .add 3 (.tmp 29) (.const (.int .i64 1)) 3) none,
    sop (some 5) (.assign (.tmp 30)) none]
theorem xr48_5 : Xr 48 87 r48_5 o48_5 [] := execI_reg' (by kernel_rfl)
theorem cl48_0 : l48_0 = (.seq (.seq r48_4 (.cond (.tmp 28) .skip (.exit 0))) (.seq (.block 1 (.seq r48_6 (.seq (.seq r48_7 (.block 2 (.loop l48_1))) r48_17))) r48_5)) := by kernel_rfl
noncomputable def r48_18 : Code := navF Try.f48 [1, 1, 1, 1, 0]
noncomputable def o48_18 : List Oper := [sop (some 86) (.load 34 (.tmp 4)) none,
    sop none (.store 34 (.tmp 2) (.tmp 86)) none]
theorem xr48_18 : Xr 48 87 r48_18 o48_18 [] := execI_reg' (by kernel_rfl)
noncomputable def b48 : Code := (.seq r48_0 (.seq r48_1 (.seq r48_2 (.seq (.seq r48_3 (.block 0 (.loop l48_0))) (.seq r48_18 .ret)))))
theorem body48 : Try.f48.body = some b48 := by kernel_rfl
theorem fn48 : E.fn 48 = some Try.f48 := by kernel_rfl
theorem run48 (args : List D) (h : H) (hl : args.length ≤ 87) : bodyI E 48 args h = resOf E [(.cell 2 34)] (execI E 48 87 b48 ⟨argA args, h⟩) := bodyI_res fn48 body48 rfl rfl args h hl

/-! ### 18: (gauntlet/gauntletlaw01.W).Of -/
noncomputable def r18_0 : Code := navF Try.f18 [0]
noncomputable def o18_0 : List Oper := [sop (some 2) (.box 59 (.tmp 0)) none,
    sop (some 4) (.assign (.const (.slice none 0 0))) none]
theorem xr18_0 : Xr 18 30 r18_0 o18_0 [] := execI_reg' (by kernel_rfl)
noncomputable def r18_1 : Code := navF Try.f18 [1, 0]
noncomputable def o18_1 : List Oper := [sop (some 5) (.assign (.const (.slice none 0 0))) none]
theorem xr18_1 : Xr 18 30 r18_1 o18_1 [] := execI_reg' (by kernel_rfl)
noncomputable def r18_2 : Code := navF Try.f18 [1, 1, 0, 0]
noncomputable def o18_2 : List Oper := [sop (some 6) (.assign (.const (.int .i64 0))) none]
theorem xr18_2 : Xr 18 30 r18_2 o18_2 [] := execI_reg' (by kernel_rfl)
noncomputable def l18_0 : Code := navF Try.f18 [1, 1, 0, 1, 0, 0]
noncomputable def r18_3 : Code := navF Try.f18 [1, 1, 0, 1, 0, 0, 0, 0]
noncomputable def o18_3 : List Oper := [sop (some 7) (.move (.tmp 6)) none,
    sop (some 8) (.fieldAddr 59 (.tmp 2) 0) none,
    sop (some 9) (.load 22 (.tmp 8)) none,
    sop (some 10) (.call { callee := (.builtin .len), args := #[(.tmp 9)], argTypes := #[22] }) none,
    sop (some 11) (.binOp .lss 3 (.tmp 7) (.tmp 10) 3) none,
    sop (some 12) (.move (.tmp 11)) none,
    sop (some 13) (.move (.tmp 6)) (some (5, true)),
    sop (some 14) (.binOp .lss 3 (.tmp 13) (.const (.int .i64 12)) 3) (some (5, true)),
    sop (some 15) (.pick (.tmp 12) (.tmp 14) (.const (.bool false))) none]
theorem xr18_3 : Xr 18 30 r18_3 o18_3 [] := execI_reg' (by kernel_rfl)
noncomputable def r18_5 : Code := navF Try.f18 [1, 1, 0, 1, 0, 0, 1, 0, 0]
noncomputable def o18_5 : List Oper := [sop (some 18) (.move (.tmp 5)) none,
    sop (some 19) (.fieldAddr 59 (.tmp 2) 0) none,
    sop (some 20) (.load 22 (.tmp 19)) none,
    sop (some 21) (.move (.tmp 6)) none,
    sop (some 22) (.indexAddr 22 (.tmp 20) (.tmp 21)) none,
    sop (some 23) (.load 5 (.tmp 22)) none,
    sop (some 24) (.convert 5 3 (.tmp 23)) none,
    sop (some 25) (.move (.tmp 1)) none,
    sop (some 26) (.binOp .rem 3 (.tmp 24) (.tmp 25) 3) none,
    sop (some 27) (.buildSlice 62 1 #[(0, (.tmp 26))]) none,
    sop (some 28) (.call { callee := (.builtin .append), args := #[(.tmp 18), (.tmp 27)], argTypes := #[62, 62] }) none,
    sop (some 5) (.assign (.tmp 28)) none]
theorem xr18_5 : Xr 18 30 r18_5 o18_5 [] := execI_reg' (by kernel_rfl)
noncomputable def r18_4 : Code := navF Try.f18 [1, 1, 0, 1, 0, 0, 1, 1]
noncomputable def o18_4 : List Oper := [sop (some 16) (.move (.tmp 6)) none,
    sop (some 17) (.binOp .add 3 (.tmp 16) (.const (.int .i64 1)) 3) none,
    sop (some 6) (.assign (.tmp 17)) none]
theorem xr18_4 : Xr 18 30 r18_4 o18_4 [] := execI_reg' (by kernel_rfl)
theorem cl18_0 : l18_0 = (.seq (.seq r18_3 (.cond (.tmp 15) .skip (.exit 0))) (.seq (.block 1 r18_5) r18_4)) := by kernel_rfl
noncomputable def r18_6 : Code := navF Try.f18 [1, 1, 1, 0]
noncomputable def o18_6 : List Oper := [sop (some 29) (.move (.tmp 5)) none,
    sop (some 4) (.assign (.tmp 29)) none]
theorem xr18_6 : Xr 18 30 r18_6 o18_6 [] := execI_reg' (by kernel_rfl)
noncomputable def b18 : Code := (.seq r18_0 (.seq r18_1 (.seq (.seq r18_2 (.block 0 (.loop l18_0))) (.seq r18_6 .ret))))
theorem body18 : Try.f18.body = some b18 := by kernel_rfl
theorem fn18 : E.fn 18 = some Try.f18 := by kernel_rfl
theorem run18 (args : List D) (h : H) (hl : args.length ≤ 30) : bodyI E 18 args h = resOf E [(.tmp 4)] (execI E 18 30 b18 ⟨argA args, h⟩) := bodyI_res fn18 body18 rfl rfl args h hl

/-! ### 49: gauntlet/gauntletref04.Copy -/
noncomputable def r49_0 : Code := navF Try.f49 [0]
noncomputable def o49_0 : List Oper := [sop (some 1) (.box 34 (.tmp 0)) none,
    sop (some 2) (.alloc 34) none]
theorem xr49_0 : Xr 49 30 r49_0 o49_0 [] := execI_reg' (by kernel_rfl)
noncomputable def r49_1 : Code := navF Try.f49 [1, 0]
noncomputable def o49_1 : List Oper := [sop (some 5) (.fieldAddr 34 (.tmp 1) 0) none,
    sop (some 6) (.load 3 (.tmp 5)) none,
    sop (some 7) (.fieldAddr 34 (.tmp 1) 1) none,
    sop (some 8) (.load 3 (.tmp 7)) none,
    sop (some 9) (.build 34 #[(0, (.tmp 6)), (1, (.tmp 8))]) none,
    sop (some 3) (.alloc 34) none,
    sop none (.store 34 (.tmp 3) (.tmp 9)) none]
theorem xr49_1 : Xr 49 30 r49_1 o49_1 [] := execI_reg' (by kernel_rfl)
noncomputable def r49_2 : Code := navF Try.f49 [1, 1, 0, 0]
noncomputable def o49_2 : List Oper := [sop (some 4) (.assign (.const (.int .i64 0))) none]
theorem xr49_2 : Xr 49 30 r49_2 o49_2 [] := execI_reg' (by kernel_rfl)
noncomputable def l49_0 : Code := navF Try.f49 [1, 1, 0, 1, 0, 0]
noncomputable def r49_3 : Code := navF Try.f49 [1, 1, 0, 1, 0, 0, 0, 0]
noncomputable def o49_3 : List Oper := [sop (some 10) (.move (.tmp 4)) none,
    sop (some 11) (.fieldAddr 34 (.tmp 1) 2) none,
    sop (some 12) (.load 32 (.tmp 11)) none,
    sop (some 13) (.call { callee := (.builtin .len), args := #[(.tmp 12)], argTypes := #[32] }) none,
    sop (some 14) (.binOp .lss 3 (.tmp 10) (.tmp 13) 3) none]
theorem xr49_3 : Xr 49 30 r49_3 o49_3 [] := execI_reg' (by kernel_rfl)
noncomputable def r49_5 : Code := navF Try.f49 [1, 1, 0, 1, 0, 0, 1, 0, 0]
noncomputable def o49_5 : List Oper := [sop (some 17) (.fieldAddr 34 (.tmp 3) 2) none,
    sop (some 18) (.load 32 (.tmp 17)) none,
    sop (some 19) (.buildSlice 72 0 #[]) none,
    sop (some 20) (.fieldAddr 34 (.tmp 1) 2) none,
    sop (some 21) (.load 32 (.tmp 20)) none,
    sop (some 22) (.move (.tmp 4)) none,
    sop (some 23) (.indexAddr 32 (.tmp 21) (.tmp 22)) none,
    sop (some 24) (.load 72 (.tmp 23)) none,
    sop (some 25) (.call { callee := (.builtin .append), args := #[(.tmp 19), (.tmp 24)], argTypes := #[72, 72] }) none,
    sop (some 26) (.buildSlice 32 1 #[(0, (.tmp 25))]) none,
    sop (some 27) (.call { callee := (.builtin .append), args := #[(.tmp 18), (.tmp 26)], argTypes := #[32, 32] }) none,
    sop (some 28) (.fieldAddr 34 (.tmp 3) 2) none,
    sop none (.store 32 (.tmp 28) (.tmp 27)) none]
theorem xr49_5 : Xr 49 30 r49_5 o49_5 [(1, 2), (1, 4), (2, 4), (1, 7), (2, 7), (1, 8), (1, 9)] := execI_reg' (by kernel_rfl)
noncomputable def r49_4 : Code := navF Try.f49 [1, 1, 0, 1, 0, 0, 1, 1]
noncomputable def o49_4 : List Oper := [sop (some 15) (.move (.tmp 4)) none,
    sop (some 16) (.binOp .add 3 (.tmp 15) (.const (.int .i64 1)) 3) none,
    sop (some 4) (.assign (.tmp 16)) none]
theorem xr49_4 : Xr 49 30 r49_4 o49_4 [] := execI_reg' (by kernel_rfl)
theorem cl49_0 : l49_0 = (.seq (.seq r49_3 (.cond (.tmp 14) .skip (.exit 0))) (.seq (.block 1 r49_5) r49_4)) := by kernel_rfl
noncomputable def r49_6 : Code := navF Try.f49 [1, 1, 1, 0]
noncomputable def o49_6 : List Oper := [sop (some 29) (.load 34 (.tmp 3)) none,
    sop none (.store 34 (.tmp 2) (.tmp 29)) none]
theorem xr49_6 : Xr 49 30 r49_6 o49_6 [] := execI_reg' (by kernel_rfl)
noncomputable def b49 : Code := (.seq r49_0 (.seq r49_1 (.seq (.seq r49_2 (.block 0 (.loop l49_0))) (.seq r49_6 .ret))))
theorem body49 : Try.f49.body = some b49 := by kernel_rfl
theorem fn49 : E.fn 49 = some Try.f49 := by kernel_rfl
theorem run49 (args : List D) (h : H) (hl : args.length ≤ 30) : bodyI E 49 args h = resOf E [(.cell 2 34)] (execI E 49 30 b49 ⟨argA args, h⟩) := bodyI_res fn49 body49 rfl rfl args h hl

/-! ### 50: gauntlet/gauntletref04.Check -/
noncomputable def r50_0 : Code := navF Try.f50 [0]
noncomputable def o50_0 : List Oper := [sop (some 1) (.box 34 (.tmp 0)) none,
    sop (some 2) (.assign (.const (.int .i64 0))) none]
theorem xr50_0 : Xr 50 95 r50_0 o50_0 [] := execI_reg' (by kernel_rfl)
noncomputable def r50_1 : Code := navF Try.f50 [1, 0, 0]
noncomputable def o50_1 : List Oper := [sop (some 6) (.fieldAddr 34 (.tmp 1) 0) none,
    sop (some 7) (.load 3 (.tmp 6)) none,
    sop (some 8) (.binOp .gtr 3 (.tmp 7) (.const (.int .i64 16)) 3) none,
    sop (some 9) (.move (.tmp 8)) none,
    sop (some 10) (.fieldAddr 34 (.tmp 1) 1) (some (3, false)),
    sop (some 11) (.load 3 (.tmp 10)) (some (3, false)),
    sop (some 12) (.binOp .gtr 3 (.tmp 11) (.const (.int .i64 16)) 3) (some (3, false)),
    sop (some 13) (.pick (.tmp 9) (.const (.bool true)) (.tmp 12)) none,
    sop (some 14) (.move (.tmp 13)) none,
    sop (some 15) (.fieldAddr 34 (.tmp 1) 2) (some (8, false)),
    sop (some 16) (.load 32 (.tmp 15)) (some (8, false)),
    sop (some 17) (.call { callee := (.builtin .len), args := #[(.tmp 16)], argTypes := #[32] }) (some (8, false)),
    sop (some 18) (.binOp .gtr 3 (.tmp 17) (.const (.int .i64 64)) 3) (some (8, false)),
    sop (some 19) (.pick (.tmp 14) (.const (.bool true)) (.tmp 18)) none]
theorem xr50_1 : Xr 50 95 r50_1 o50_1 [] := execI_reg' (by kernel_rfl)
noncomputable def r50_2 : Code := navF Try.f50 [1, 0, 1, 0, 0]
noncomputable def o50_2 : List Oper := [sop (some 2) (.assign (.const (.int .i64 3))) none]
theorem xr50_2 : Xr 50 95 r50_2 o50_2 [] := execI_reg' (by kernel_rfl)
noncomputable def r50_3 : Code := navF Try.f50 [1, 1, 0, 0]
noncomputable def o50_3 : List Oper := [sop (some 20) (.fieldAddr 34 (.tmp 1) 0) none,
    sop (some 21) (.load 3 (.tmp 20)) none,
    sop (some 22) (.binOp .lss 3 (.tmp 21) (.const (.int .i64 1)) 3) none,
    sop (some 23) (.move (.tmp 22)) none,
    sop (some 24) (.fieldAddr 34 (.tmp 1) 1) (some (3, false)),
    sop (some 25) (.load 3 (.tmp 24)) (some (3, false)),
    sop (some 26) (.binOp .lss 3 (.tmp 25) (.const (.int .i64 1)) 3) (some (3, false)),
    sop (some 27) (.pick (.tmp 23) (.const (.bool true)) (.tmp 26)) none,
    sop (some 28) (.move (.tmp 27)) none,
    sop (some 29) (.fieldAddr 34 (.tmp 1) 2) (some (8, false)),
    sop (some 30) (.load 32 (.tmp 29)) (some (8, false)),
    sop (some 31) (.call { callee := (.builtin .len), args := #[(.tmp 30)], argTypes := #[32] }) (some (8, false)),
    sop (some 32) (.binOp .eql 3 (.tmp 31) (.const (.int .i64 0)) 3) (some (8, false)),
    sop (some 33) (.pick (.tmp 28) (.const (.bool true)) (.tmp 32)) none]
theorem xr50_3 : Xr 50 95 r50_3 o50_3 [] := execI_reg' (by kernel_rfl)
noncomputable def r50_4 : Code := navF Try.f50 [1, 1, 0, 1, 0, 0]
noncomputable def o50_4 : List Oper := [sop (some 2) (.assign (.const (.int .i64 1))) none]
theorem xr50_4 : Xr 50 95 r50_4 o50_4 [] := execI_reg' (by kernel_rfl)
noncomputable def r50_5 : Code := navF Try.f50 [1, 1, 1, 0, 0]
noncomputable def o50_5 : List Oper := [sop (some 3) (.assign (.const (.int .i64 0))) none]
theorem xr50_5 : Xr 50 95 r50_5 o50_5 [] := execI_reg' (by kernel_rfl)
noncomputable def l50_0 : Code := navF Try.f50 [1, 1, 1, 0, 1, 0, 0]
noncomputable def r50_6 : Code := navF Try.f50 [1, 1, 1, 0, 1, 0, 0, 0, 0]
noncomputable def o50_6 : List Oper := [sop (some 34) (.move (.tmp 3)) none,
    sop (some 35) (.fieldAddr 34 (.tmp 1) 2) none,
    sop (some 36) (.load 32 (.tmp 35)) none,
    sop (some 37) (.call { callee := (.builtin .len), args := #[(.tmp 36)], argTypes := #[32] }) none,
    sop (some 38) (.binOp .lss 3 (.tmp 34) (.tmp 37) 3) none]
theorem xr50_6 : Xr 50 95 r50_6 o50_6 [] := execI_reg' (by kernel_rfl)
noncomputable def r50_8 : Code := navF Try.f50 [1, 1, 1, 0, 1, 0, 0, 1, 0, 0, 0, 0]
noncomputable def o50_8 : List Oper := [sop (some 41) (.fieldAddr 34 (.tmp 1) 2) none,
    sop (some 42) (.load 32 (.tmp 41)) none,
    sop (some 43) (.move (.tmp 3)) none,
    sop (some 44) (.indexAddr 32 (.tmp 42) (.tmp 43)) none,
    sop (some 45) (.load 72 (.tmp 44)) none,
    sop (some 46) (.call { callee := (.builtin .len), args := #[(.tmp 45)], argTypes := #[72] }) none,
    sop (some 47) (.fieldAddr 34 (.tmp 1) 0) none,
    sop (some 48) (.load 3 (.tmp 47)) none,
    sop (some 49) (.binOp .neq 3 (.tmp 46) (.tmp 48) 3) none]
theorem xr50_8 : Xr 50 95 r50_8 o50_8 [(1, 7), (4, 7), (5, 7)] := execI_reg' (by kernel_rfl)
noncomputable def r50_9 : Code := navF Try.f50 [1, 1, 1, 0, 1, 0, 0, 1, 0, 0, 0, 1, 0, 0]
noncomputable def o50_9 : List Oper := [sop (some 2) (.assign (.const (.int .i64 1))) none]
theorem xr50_9 : Xr 50 95 r50_9 o50_9 [] := execI_reg' (by kernel_rfl)
noncomputable def r50_10 : Code := navF Try.f50 [1, 1, 1, 0, 1, 0, 0, 1, 0, 0, 1, 0]
noncomputable def o50_10 : List Oper := [sop (some 4) (.assign (.const (.int .i64 0))) none]
theorem xr50_10 : Xr 50 95 r50_10 o50_10 [] := execI_reg' (by kernel_rfl)
noncomputable def l50_1 : Code := navF Try.f50 [1, 1, 1, 0, 1, 0, 0, 1, 0, 0, 1, 1, 0, 0]
noncomputable def r50_11 : Code := navF Try.f50 [1, 1, 1, 0, 1, 0, 0, 1, 0, 0, 1, 1, 0, 0, 0, 0]
noncomputable def o50_11 : List Oper := [sop (some 50) (.move (.tmp 4)) none,
    sop (some 51) (.fieldAddr 34 (.tmp 1) 0) none,
    sop (some 52) (.load 3 (.tmp 51)) none,
    sop (some 53) (.binOp .lss 3 (.tmp 50) (.tmp 52) 3) none]
theorem xr50_11 : Xr 50 95 r50_11 o50_11 [] := execI_reg' (by kernel_rfl)
noncomputable def r50_13 : Code := navF Try.f50 [1, 1, 1, 0, 1, 0, 0, 1, 0, 0, 1, 1, 0, 0, 1, 0, 0, 0]
noncomputable def o50_13 : List Oper := [sop (some 56) (.fieldAddr 34 (.tmp 1) 2) none,
    sop (some 57) (.load 32 (.tmp 56)) none,
    sop (some 58) (.move (.tmp 3)) none,
    sop (some 59) (.indexAddr 32 (.tmp 57) (.tmp 58)) none,
    sop (some 60) (.load 72 (.tmp 59)) none,
    sop (some 61) (.move (.tmp 4)) none,
    sop (some 62) (.indexAddr 72 (.tmp 60) (.tmp 61)) none,
    sop (some 63) (.load 55 (.tmp 62)) none,
    sop (some 5) (.alloc 55) none,
    sop none (.store 55 (.tmp 5) (.tmp 63)) none]
theorem xr50_13 : Xr 50 95 r50_13 o50_13 [] := execI_reg' (by kernel_rfl)
noncomputable def r50_14 : Code := navF Try.f50 [1, 1, 1, 0, 1, 0, 0, 1, 0, 0, 1, 1, 0, 0, 1, 0, 0, 1, 0, 0]
noncomputable def o50_14 : List Oper := [sop (some 64) (.fieldAddr 55 (.tmp 5) 0) none,
    sop (some 65) (.load 3 (.tmp 64)) none,
    sop (some 66) (.binOp .eql 3 (.tmp 65) (.const (.int .i64 (-1))) 3) none,
    sop (some 67) (.move (.tmp 66)) none,
    sop (some 68) (.fieldAddr 55 (.tmp 5) 1) (some (3, true)),
    sop (some 69) (.load 3 (.tmp 68)) (some (3, true)),
    sop (some 70) (.binOp .eql 3 (.tmp 69) (.const (.int .i64 (-1))) 3) (some (3, true)),
    sop (some 71) (.pick (.tmp 67) (.tmp 70) (.const (.bool false))) none]
theorem xr50_14 : Xr 50 95 r50_14 o50_14 [] := execI_reg' (by kernel_rfl)
noncomputable def r50_15 : Code := navF Try.f50 [1, 1, 1, 0, 1, 0, 0, 1, 0, 0, 1, 1, 0, 0, 1, 0, 0, 1, 1, 0]
noncomputable def o50_15 : List Oper := [sop (some 72) (.fieldAddr 55 (.tmp 5) 0) none,
    sop (some 73) (.load 3 (.tmp 72)) none,
    sop (some 74) (.binOp .lss 3 (.tmp 73) (.const (.int .i64 0)) 3) none,
    sop (some 75) (.move (.tmp 74)) none,
    sop (some 76) (.fieldAddr 55 (.tmp 5) 0) (some (3, false)),
    sop (some 77) (.load 3 (.tmp 76)) (some (3, false)),
    sop (some 78) (.fieldAddr 34 (.tmp 1) 2) (some (3, false)),
    sop (some 79) (.load 32 (.tmp 78)) (some (3, false)),
    sop (some 80) (.call { callee := (.builtin .len), args := #[(.tmp 79)], argTypes := #[32] }) (some (3, false)),
    sop (some 81) (.binOp .geq 3 (.tmp 77) (.tmp 80) 3) (some (3, false)),
    sop (some 82) (.pick (.tmp 75) (.const (.bool true)) (.tmp 81)) none,
    sop (some 83) (.move (.tmp 82)) none,
    sop (some 84) (.fieldAddr 55 (.tmp 5) 1) (some (11, false)),
    sop (some 85) (.load 3 (.tmp 84)) (some (11, false)),
    sop (some 86) (.binOp .lss 3 (.tmp 85) (.const (.int .i64 0)) 3) (some (11, false)),
    sop (some 87) (.pick (.tmp 83) (.const (.bool true)) (.tmp 86)) none,
    sop (some 88) (.move (.tmp 87)) none,
    sop (some 89) (.fieldAddr 55 (.tmp 5) 1) (some (16, false)),
    sop (some 90) (.load 3 (.tmp 89)) (some (16, false)),
    sop (some 91) (.fieldAddr 34 (.tmp 1) 1) (some (16, false)),
    sop (some 92) (.load 3 (.tmp 91)) (some (16, false)),
    sop (some 93) (.binOp .geq 3 (.tmp 90) (.tmp 92) 3) (some (16, false)),
    sop (some 94) (.pick (.tmp 88) (.const (.bool true)) (.tmp 93)) none]
theorem xr50_15 : Xr 50 95 r50_15 o50_15 [] := execI_reg' (by kernel_rfl)
noncomputable def r50_16 : Code := navF Try.f50 [1, 1, 1, 0, 1, 0, 0, 1, 0, 0, 1, 1, 0, 0, 1, 0, 0, 1, 1, 1, 0, 0]
noncomputable def o50_16 : List Oper := [sop (some 2) (.assign (.const (.int .i64 1))) none]
theorem xr50_16 : Xr 50 95 r50_16 o50_16 [] := execI_reg' (by kernel_rfl)
noncomputable def r50_12 : Code := navF Try.f50 [1, 1, 1, 0, 1, 0, 0, 1, 0, 0, 1, 1, 0, 0, 1, 1]
noncomputable def o50_12 : List Oper := [sop (some 54) (.move (.tmp 4)) none,
    sop (some 55) (.binOp .add 3 (.tmp 54) (.const (.int .i64 1)) 3) none,
    sop (some 4) (.assign (.tmp 55)) none]
theorem xr50_12 : Xr 50 95 r50_12 o50_12 [] := execI_reg' (by kernel_rfl)
theorem cl50_1 : l50_1 = (.seq (.seq r50_11 (.cond (.tmp 53) .skip (.exit 2))) (.seq (.block 3 (.seq r50_13 (.seq (.seq r50_14 (.cond (.tmp 71) (.exit 3) .skip)) (.seq r50_15 (.cond (.tmp 94) (.seq r50_16 .ret) .skip))))) r50_12)) := by kernel_rfl
noncomputable def r50_7 : Code := navF Try.f50 [1, 1, 1, 0, 1, 0, 0, 1, 1]
noncomputable def o50_7 : List Oper := [sop (some 39) (.move (.tmp 3)) none,
    sop (some 40) (.binOp .add 3 (.tmp 39) (.const (.int .i64 1)) 3) none,
    sop (some 3) (.assign (.tmp 40)) none]
theorem xr50_7 : Xr 50 95 r50_7 o50_7 [] := execI_reg' (by kernel_rfl)
theorem cl50_0 : l50_0 = (.seq (.seq r50_6 (.cond (.tmp 38) .skip (.exit 0))) (.seq (.block 1 (.seq (.seq r50_8 (.cond (.tmp 49) (.seq r50_9 .ret) .skip)) (.seq r50_10 (.block 2 (.loop l50_1))))) r50_7)) := by kernel_rfl
noncomputable def r50_17 : Code := navF Try.f50 [1, 1, 1, 1, 0]
noncomputable def o50_17 : List Oper := [sop (some 2) (.assign (.const (.int .i64 0))) none]
theorem xr50_17 : Xr 50 95 r50_17 o50_17 [] := execI_reg' (by kernel_rfl)
noncomputable def b50 : Code := (.seq r50_0 (.seq (.seq r50_1 (.cond (.tmp 19) (.seq r50_2 .ret) .skip)) (.seq (.seq r50_3 (.cond (.tmp 33) (.seq r50_4 .ret) .skip)) (.seq (.seq r50_5 (.block 0 (.loop l50_0))) (.seq r50_17 .ret)))))
theorem body50 : Try.f50.body = some b50 := by kernel_rfl
theorem fn50 : E.fn 50 = some Try.f50 := by kernel_rfl
theorem run50 (args : List D) (h : H) (hl : args.length ≤ 95) : bodyI E 50 args h = resOf E [(.tmp 2)] (execI E 50 95 b50 ⟨argA args, h⟩) := bodyI_res fn50 body50 rfl rfl args h hl

/-! ### 17: (gauntlet/gauntletlaw10.D).Of -/
noncomputable def r17_0 : Code := navF Try.f17 [0]
noncomputable def o17_0 : List Oper := [sop (some 1) (.box 57 (.tmp 0)) none,
    sop (some 2) (.alloc 34) none,
    sop (some 3) (.alloc 34) none]
theorem xr17_0 : Xr 17 144 r17_0 o17_0 [] := execI_reg' (by kernel_rfl)
noncomputable def r17_1 : Code := navF Try.f17 [1, 0]
noncomputable def o17_1 : List Oper := [sop (some 15) (.fieldAddr 57 (.tmp 1) 0) none,
    sop (some 16) (.load 53 (.tmp 15)) none,
    sop (some 17) (.call { callee := (.value (.func 48)), args := #[(.tmp 16)], argTypes := #[53] }) none,
    sop (some 4) (.alloc 34) none,
    sop none (.store 34 (.tmp 4) (.tmp 17)) none]
theorem xr17_1 : Xr 17 144 r17_1 o17_1 [] := execI_reg' (by kernel_rfl)
noncomputable def r17_2 : Code := navF Try.f17 [1, 1, 0]
noncomputable def o17_2 : List Oper := [sop (some 18) (.fieldAddr 34 (.tmp 4) 2) none,
    sop (some 19) (.load 32 (.tmp 18)) none,
    sop (some 20) (.call { callee := (.builtin .len), args := #[(.tmp 19)], argTypes := #[32] }) none,
    sop (some 5) (.assign (.tmp 20)) none]
theorem xr17_2 : Xr 17 144 r17_2 o17_2 [] := execI_reg' (by kernel_rfl)
noncomputable def r17_3 : Code := navF Try.f17 [1, 1, 1, 0, 0]
noncomputable def o17_3 : List Oper := [sop (some 21) (.fieldAddr 57 (.tmp 1) 2) none,
    sop (some 22) (.load 4 (.tmp 21)) none,
    sop (some 23) (.unOp .not 4 (.tmp 22)) none]
theorem xr17_3 : Xr 17 144 r17_3 o17_3 [] := execI_reg' (by kernel_rfl)
noncomputable def r17_4 : Code := navF Try.f17 [1, 1, 1, 0, 1, 0, 0]
noncomputable def o17_4 : List Oper := [sop (some 24) (.fieldAddr 57 (.tmp 1) 0) none,
    sop (some 25) (.fieldAddr 53 (.tmp 24) 1) none,
    sop (some 26) (.load 5 (.tmp 25)) none,
    sop (some 27) (.fieldAddr 57 (.tmp 1) 1) none,
    sop (some 28) (.fieldAddr 53 (.tmp 27) 1) none,
    sop none (.store 5 (.tmp 28) (.tmp 26)) none]
theorem xr17_4 : Xr 17 144 r17_4 o17_4 [] := execI_reg' (by kernel_rfl)
noncomputable def r17_5 : Code := navF Try.f17 [1, 1, 1, 0, 1, 0, 1, 0]
noncomputable def o17_5 : List Oper := [sop (some 29) (.load 34 (.tmp 4)) none,
    sop (some 30) (.fieldAddr 57 (.tmp 1) 1) none,
    sop (some 31) (.load 53 (.tmp 30)) none,
    sop (some 32) (.call { callee := (.value (.func 48)), args := #[(.tmp 31)], argTypes := #[53] }) none,
    sop none (.store 34 (.tmp 2) (.tmp 29)) none,
    sop none (.store 34 (.tmp 3) (.tmp 32)) none]
theorem xr17_5 : Xr 17 144 r17_5 o17_5 [(0, 2), (0, 3)] := execI_reg' (by kernel_rfl)
noncomputable def r17_6 : Code := navF Try.f17 [1, 1, 1, 1, 0]
noncomputable def o17_6 : List Oper := [sop (some 6) (.assign (.const (.slice none 0 0))) none]
theorem xr17_6 : Xr 17 144 r17_6 o17_6 [] := execI_reg' (by kernel_rfl)
noncomputable def r17_7 : Code := navF Try.f17 [1, 1, 1, 1, 1, 0, 0]
noncomputable def o17_7 : List Oper := [sop (some 7) (.assign (.const (.int .i64 0))) none]
theorem xr17_7 : Xr 17 144 r17_7 o17_7 [] := execI_reg' (by kernel_rfl)
noncomputable def l17_0 : Code := navF Try.f17 [1, 1, 1, 1, 1, 0, 1, 0, 0]
noncomputable def r17_8 : Code := navF Try.f17 [1, 1, 1, 1, 1, 0, 1, 0, 0, 0, 0]
noncomputable def o17_8 : List Oper := [sop (some 33) (.move (.tmp 7)) none,
    sop (some 34) (.move (.tmp 5)) none,
    sop (some 35) (.binOp .lss 3 (.tmp 33) (.tmp 34) 3) none]
theorem xr17_8 : Xr 17 144 r17_8 o17_8 [] := execI_reg' (by kernel_rfl)
noncomputable def r17_10 : Code := navF Try.f17 [1, 1, 1, 1, 1, 0, 1, 0, 0, 1, 0, 0]
noncomputable def o17_10 : List Oper := [sop (some 38) (.move (.tmp 6)) none,
    sop (some 39) (.move (.tmp 7)) none,
    sop (some 40) (.buildSlice 62 1 #[(0, (.tmp 39))]) none,
    sop (some 41) (.call { callee := (.builtin .append), args := #[(.tmp 38), (.tmp 40)], argTypes := #[62, 62] }) none,
    sop (some 6) (.assign (.tmp 41)) none]
theorem xr17_10 : Xr 17 144 r17_10 o17_10 [] := execI_reg' (by kernel_rfl)
noncomputable def r17_9 : Code := navF Try.f17 [1, 1, 1, 1, 1, 0, 1, 0, 0, 1, 1]
noncomputable def o17_9 : List Oper := [sop (some 36) (.move (.tmp 7)) none,
    sop (some 37) (.binOp .add 3 (.tmp 36) (.const (.int .i64 1)) 3) none,
    sop (some 7) (.assign (.tmp 37)) none]
theorem xr17_9 : Xr 17 144 r17_9 o17_9 [] := execI_reg' (by kernel_rfl)
theorem cl17_0 : l17_0 = (.seq (.seq r17_8 (.cond (.tmp 35) .skip (.exit 0))) (.seq (.block 1 r17_10) r17_9)) := by kernel_rfl
noncomputable def r17_11 : Code := navF Try.f17 [1, 1, 1, 1, 1, 1, 0, 0]
noncomputable def o17_11 : List Oper := [sop (some 42) (.move (.tmp 5)) none,
    sop (some 43) (.binOp .gtr 3 (.tmp 42) (.const (.int .i64 1)) 3) none]
theorem xr17_11 : Xr 17 144 r17_11 o17_11 [] := execI_reg' (by kernel_rfl)
noncomputable def r17_12 : Code := navF Try.f17 [1, 1, 1, 1, 1, 1, 0, 1, 0, 0]
noncomputable def o17_12 : List Oper := [sop (some 44) (.fieldAddr 57 (.tmp 1) 3) none,
    sop (some 45) (.indexAddr 31 (.tmp 44) (.const (.int .i64 0))) none,
    sop (some 46) (.load 5 (.tmp 45)) none,
    sop (some 47) (.convert 5 3 (.tmp 46)) none,
    sop (some 48) (.move (.tmp 5)) none,
    sop (some 49) (.binOp .sub 3 (.tmp 48) (.const (.int .i64 1)) 3) none,
    sop (some 50) (.binOp .rem 3 (.tmp 47) (.tmp 49) 3) none,
    sop (some 51) (.binOp .add 3 (.const (.int .i64 1)) (.tmp 50) 3) none,
    sop (some 52) (.fieldAddr 57 (.tmp 1) 3) none,
    sop (some 53) (.indexAddr 31 (.tmp 52) (.const (.int .i64 1))) none,
    sop (some 54) (.load 5 (.tmp 53)) none,
    sop (some 55) (.convert 5 3 (.tmp 54)) none,
    sop (some 56) (.move (.tmp 5)) none,
    sop (some 57) (.binOp .sub 3 (.tmp 56) (.const (.int .i64 1)) 3) none,
    sop (some 58) (.binOp .rem 3 (.tmp 55) (.tmp 57) 3) none,
    sop (some 59) (.binOp .add 3 (.const (.int .i64 1)) (.tmp 58) 3) none,
    sop (some 8) (.assign (.tmp 51)) none,
    sop (some 9) (.assign (.tmp 59)) none]
theorem xr17_12 : Xr 17 144 r17_12 o17_12 [(2, 10)] := execI_reg' (by kernel_rfl)
noncomputable def r17_13 : Code := navF Try.f17 [1, 1, 1, 1, 1, 1, 0, 1, 0, 1]
noncomputable def o17_13 : List Oper := [sop (some 60) (.move (.tmp 6)) none,
    sop (some 61) (.move (.tmp 8)) none,
    sop (some 62) (.move (.tmp 6)) none,
    sop (some 63) (.move (.tmp 9)) none,
    sop (some 64) (.move (.tmp 6)) none,
    sop (some 65) (.move (.tmp 9)) none,
    sop (some 66) (.indexAddr 62 (.tmp 64) (.tmp 65)) none,
    sop (some 67) (.load 3 (.tmp 66)) none,
    sop (some 68) (.move (.tmp 6)) none,
    sop (some 69) (.move (.tmp 8)) none,
    sop (some 70) (.indexAddr 62 (.tmp 68) (.tmp 69)) none,
    sop (some 71) (.load 3 (.tmp 70)) none,
    sop (some 72) (.indexAddr 62 (.tmp 60) (.tmp 61)) none,
    sop none (.store 3 (.tmp 72) (.tmp 67)) none,
    sop (some 73) (.indexAddr 62 (.tmp 62) (.tmp 63)) none,
    sop none (.store 3 (.tmp 73) (.tmp 71)) none]
theorem xr17_13 : Xr 17 144 r17_13 o17_13 [(7, 11)] := execI_reg' (by kernel_rfl)
noncomputable def r17_14 : Code := navF Try.f17 [1, 1, 1, 1, 1, 1, 1, 0]
noncomputable def o17_14 : List Oper := [sop (some 74) (.load 34 (.tmp 4)) none,
    sop (some 75) (.call { callee := (.value (.func 49)), args := #[(.tmp 74)], argTypes := #[34] }) none,
    sop (some 10) (.alloc 34) none,
    sop none (.store 34 (.tmp 10) (.tmp 75)) none]
theorem xr17_14 : Xr 17 144 r17_14 o17_14 [] := execI_reg' (by kernel_rfl)
noncomputable def r17_15 : Code := navF Try.f17 [1, 1, 1, 1, 1, 1, 1, 1, 0, 0]
noncomputable def o17_15 : List Oper := [sop (some 11) (.assign (.const (.int .i64 0))) none]
theorem xr17_15 : Xr 17 144 r17_15 o17_15 [] := execI_reg' (by kernel_rfl)
noncomputable def l17_1 : Code := navF Try.f17 [1, 1, 1, 1, 1, 1, 1, 1, 0, 1, 0, 0]
noncomputable def r17_16 : Code := navF Try.f17 [1, 1, 1, 1, 1, 1, 1, 1, 0, 1, 0, 0, 0, 0]
noncomputable def o17_16 : List Oper := [sop (some 76) (.move (.tmp 11)) none,
    sop (some 77) (.move (.tmp 5)) none,
    sop (some 78) (.binOp .lss 3 (.tmp 76) (.tmp 77) 3) none]
theorem xr17_16 : Xr 17 144 r17_16 o17_16 [] := execI_reg' (by kernel_rfl)
noncomputable def r17_18 : Code := navF Try.f17 [1, 1, 1, 1, 1, 1, 1, 1, 0, 1, 0, 0, 1, 0, 0, 0]
noncomputable def o17_18 : List Oper := [sop (some 12) (.assign (.const (.int .i64 0))) none]
theorem xr17_18 : Xr 17 144 r17_18 o17_18 [] := execI_reg' (by kernel_rfl)
noncomputable def l17_2 : Code := navF Try.f17 [1, 1, 1, 1, 1, 1, 1, 1, 0, 1, 0, 0, 1, 0, 0, 1, 0, 0]
noncomputable def r17_19 : Code := navF Try.f17 [1, 1, 1, 1, 1, 1, 1, 1, 0, 1, 0, 0, 1, 0, 0, 1, 0, 0, 0, 0]
noncomputable def o17_19 : List Oper := [sop (some 81) (.move (.tmp 12)) none,
    sop (some 82) (.fieldAddr 34 (.tmp 4) 0) none,
    sop (some 83) (.load 3 (.tmp 82)) none,
    sop (some 84) (.binOp .lss 3 (.tmp 81) (.tmp 83) 3) none]
theorem xr17_19 : Xr 17 144 r17_19 o17_19 [] := execI_reg' (by kernel_rfl)
noncomputable def r17_21 : Code := navF Try.f17 [1, 1, 1, 1, 1, 1, 1, 1, 0, 1, 0, 0, 1, 0, 0, 1, 0, 0, 1, 0, 0, 0]
noncomputable def o17_21 : List Oper := [sop (some 87) (.fieldAddr 34 (.tmp 4) 2) none,
    sop (some 88) (.load 32 (.tmp 87)) none,
    sop (some 89) (.move (.tmp 11)) none,
    sop (some 90) (.indexAddr 32 (.tmp 88) (.tmp 89)) none,
    sop (some 91) (.load 72 (.tmp 90)) none,
    sop (some 92) (.move (.tmp 12)) none,
    sop (some 93) (.indexAddr 72 (.tmp 91) (.tmp 92)) none,
    sop (some 94) (.load 55 (.tmp 93)) none,
    sop (some 13) (.alloc 55) none,
    sop none (.store 55 (.tmp 13) (.tmp 94)) none]
theorem xr17_21 : Xr 17 144 r17_21 o17_21 [] := execI_reg' (by kernel_rfl)
noncomputable def r17_22 : Code := navF Try.f17 [1, 1, 1, 1, 1, 1, 1, 1, 0, 1, 0, 0, 1, 0, 0, 1, 0, 0, 1, 0, 0, 1, 0, 0]
noncomputable def o17_22 : List Oper := [sop (some 95) (.fieldAddr 55 (.tmp 13) 0) none,
    sop (some 96) (.load 3 (.tmp 95)) none,
    sop (some 97) (.binOp .geq 3 (.tmp 96) (.const (.int .i64 0)) 3) none]
theorem xr17_22 : Xr 17 144 r17_22 o17_22 [] := execI_reg' (by kernel_rfl)
noncomputable def r17_23 : Code := navF Try.f17 [1, 1, 1, 1, 1, 1, 1, 1, 0, 1, 0, 0, 1, 0, 0, 1, 0, 0, 1, 0, 0, 1, 0, 1, 0]
noncomputable def o17_23 : List Oper := [sop (some 98) (.move (.tmp 6)) none,
    sop (some 99) (.fieldAddr 55 (.tmp 13) 0) none,
    sop (some 100) (.load 3 (.tmp 99)) none,
    sop (some 101) (.indexAddr 62 (.tmp 98) (.tmp 100)) none,
    sop (some 102) (.load 3 (.tmp 101)) none,
    sop (some 103) (.fieldAddr 55 (.tmp 13) 0) none,
    sop none (.store 3 (.tmp 103) (.tmp 102)) none]
theorem xr17_23 : Xr 17 144 r17_23 o17_23 [] := execI_reg' (by kernel_rfl)
noncomputable def r17_24 : Code := navF Try.f17 [1, 1, 1, 1, 1, 1, 1, 1, 0, 1, 0, 0, 1, 0, 0, 1, 0, 0, 1, 0, 0, 1, 1]
noncomputable def o17_24 : List Oper := [sop (some 104) (.fieldAddr 34 (.tmp 10) 2) none,
    sop (some 105) (.load 32 (.tmp 104)) none,
    sop (some 106) (.move (.tmp 6)) none,
    sop (some 107) (.move (.tmp 11)) none,
    sop (some 108) (.indexAddr 62 (.tmp 106) (.tmp 107)) none,
    sop (some 109) (.load 3 (.tmp 108)) none,
    sop (some 110) (.indexAddr 32 (.tmp 105) (.tmp 109)) none,
    sop (some 111) (.load 72 (.tmp 110)) none,
    sop (some 112) (.move (.tmp 12)) none,
    sop (some 113) (.load 55 (.tmp 13)) none,
    sop (some 114) (.indexAddr 72 (.tmp 111) (.tmp 112)) none,
    sop none (.store 55 (.tmp 114) (.tmp 113)) none]
theorem xr17_24 : Xr 17 144 r17_24 o17_24 [(1, 5), (1, 9), (5, 9), (7, 9)] := execI_reg' (by kernel_rfl)
noncomputable def r17_20 : Code := navF Try.f17 [1, 1, 1, 1, 1, 1, 1, 1, 0, 1, 0, 0, 1, 0, 0, 1, 0, 0, 1, 1]
noncomputable def o17_20 : List Oper := [sop (some 85) (.move (.tmp 12)) none,
    sop (some 86) (.binOp .add 3 (.tmp 85) (.const (.int .i64 1)) 3) none,
    sop (some 12) (.assign (.tmp 86)) none]
theorem xr17_20 : Xr 17 144 r17_20 o17_20 [] := execI_reg' (by kernel_rfl)
theorem cl17_2 : l17_2 = (.seq (.seq r17_19 (.cond (.tmp 84) .skip (.exit 4))) (.seq (.block 5 (.seq r17_21 (.seq (.seq r17_22 (.cond (.tmp 97) r17_23 .skip)) r17_24))) r17_20)) := by kernel_rfl
noncomputable def r17_17 : Code := navF Try.f17 [1, 1, 1, 1, 1, 1, 1, 1, 0, 1, 0, 0, 1, 1]
noncomputable def o17_17 : List Oper := [sop (some 79) (.move (.tmp 11)) none,
    sop (some 80) (.binOp .add 3 (.tmp 79) (.const (.int .i64 1)) 3) none,
    sop (some 11) (.assign (.tmp 80)) none]
theorem xr17_17 : Xr 17 144 r17_17 o17_17 [] := execI_reg' (by kernel_rfl)
theorem cl17_1 : l17_1 = (.seq (.seq r17_16 (.cond (.tmp 78) .skip (.exit 2))) (.seq (.block 3 (.seq r17_18 (.block 4 (.loop l17_2)))) r17_17)) := by kernel_rfl
noncomputable def r17_25 : Code := navF Try.f17 [1, 1, 1, 1, 1, 1, 1, 1, 1, 0]
noncomputable def o17_25 : List Oper := [sop (some 115) (.load 34 (.tmp 10)) none,
    sop (some 116) (.call { callee := (.value (.func 49)), args := #[(.tmp 115)], argTypes := #[34] }) none,
    sop (some 14) (.alloc 34) none,
    sop none (.store 34 (.tmp 14) (.tmp 116)) none]
theorem xr17_25 : Xr 17 144 r17_25 o17_25 [] := execI_reg' (by kernel_rfl)
noncomputable def r17_26 : Code := navF Try.f17 [1, 1, 1, 1, 1, 1, 1, 1, 1, 1, 0]
noncomputable def o17_26 : List Oper := [sop (some 117) (.fieldAddr 34 (.tmp 14) 2) none,
    sop (some 118) (.load 32 (.tmp 117)) none,
    sop (some 119) (.fieldAddr 57 (.tmp 1) 4) none,
    sop (some 120) (.indexAddr 31 (.tmp 119) (.const (.int .i64 0))) none,
    sop (some 121) (.load 5 (.tmp 120)) none,
    sop (some 122) (.convert 5 3 (.tmp 121)) none,
    sop (some 123) (.move (.tmp 5)) none,
    sop (some 124) (.binOp .rem 3 (.tmp 122) (.tmp 123) 3) none,
    sop (some 125) (.indexAddr 32 (.tmp 118) (.tmp 124)) none,
    sop (some 126) (.load 72 (.tmp 125)) none,
    sop (some 127) (.fieldAddr 57 (.tmp 1) 4) none,
    sop (some 128) (.indexAddr 31 (.tmp 127) (.const (.int .i64 1))) none,
    sop (some 129) (.load 5 (.tmp 128)) none,
    sop (some 130) (.convert 5 3 (.tmp 129)) none,
    sop (some 131) (.fieldAddr 34 (.tmp 4) 0) none,
    sop (some 132) (.load 3 (.tmp 131)) none,
    sop (some 133) (.binOp .rem 3 (.tmp 130) (.tmp 132) 3) none,
    sop (some 134) (.fieldAddr 57 (.tmp 1) 5) none,
    sop (some 135) (.load 55 (.tmp 134)) none,
    sop (some 136) (.indexAddr 72 (.tmp 126) (.tmp 133)) none,
    sop none (.store 55 (.tmp 136) (.tmp 135)) none]
theorem xr17_26 : Xr 17 144 r17_26 o17_26 [(1, 4), (1, 12), (4, 12), (9, 12), (1, 15), (4, 15), (9, 15), (12, 15), (1, 18), (4, 18), (9, 18), (12, 18), (15, 18)] := execI_reg' (by kernel_rfl)
noncomputable def r17_27 : Code := navF Try.f17 [1, 1, 1, 1, 1, 1, 1, 1, 1, 1, 1, 0, 0]
noncomputable def o17_27 : List Oper := [sop (some 137) (.load 34 (.tmp 14)) none,
    sop (some 138) (.call { callee := (.value (.func 50)), args := #[(.tmp 137)], argTypes := #[34] }) none,
    sop (some 139) (.binOp .eql 3 (.tmp 138) (.const (.int .i64 0)) 3) none]
theorem xr17_27 : Xr 17 144 r17_27 o17_27 [] := execI_reg' (by kernel_rfl)
noncomputable def r17_28 : Code := navF Try.f17 [1, 1, 1, 1, 1, 1, 1, 1, 1, 1, 1, 0, 1, 0, 0]
noncomputable def o17_28 : List Oper := [sop (some 140) (.load 34 (.tmp 4)) none,
    sop (some 141) (.load 34 (.tmp 14)) none,
    sop none (.store 34 (.tmp 2) (.tmp 140)) none,
    sop none (.store 34 (.tmp 3) (.tmp 141)) none]
theorem xr17_28 : Xr 17 144 r17_28 o17_28 [(0, 1), (1, 2)] := execI_reg' (by kernel_rfl)
noncomputable def r17_29 : Code := navF Try.f17 [1, 1, 1, 1, 1, 1, 1, 1, 1, 1, 1, 1, 0]
noncomputable def o17_29 : List Oper := [sop (some 142) (.load 34 (.tmp 4)) none,
    sop (some 143) (.load 34 (.tmp 10)) none,
    sop none (.store 34 (.tmp 2) (.tmp 142)) none,
    sop none (.store 34 (.tmp 3) (.tmp 143)) none]
theorem xr17_29 : Xr 17 144 r17_29 o17_29 [(0, 1), (1, 2)] := execI_reg' (by kernel_rfl)
noncomputable def b17 : Code := (.seq r17_0 (.seq r17_1 (.seq r17_2 (.seq (.seq r17_3 (.cond (.tmp 23) (.seq r17_4 (.seq r17_5 .ret)) .skip)) (.seq r17_6 (.seq (.seq r17_7 (.block 0 (.loop l17_0))) (.seq (.seq r17_11 (.cond (.tmp 43) (.seq r17_12 r17_13) .skip)) (.seq r17_14 (.seq (.seq r17_15 (.block 2 (.loop l17_1))) (.seq r17_25 (.seq r17_26 (.seq (.seq r17_27 (.cond (.tmp 139) (.seq r17_28 .ret) .skip)) (.seq r17_29 .ret)))))))))))))
theorem body17 : Try.f17.body = some b17 := by kernel_rfl
theorem fn17 : E.fn 17 = some Try.f17 := by kernel_rfl
theorem run17 (args : List D) (h : H) (hl : args.length ≤ 144) : bodyI E 17 args h = resOf E [(.cell 2 34), (.cell 3 34)] (execI E 17 144 b17 ⟨argA args, h⟩) := bodyI_res fn17 body17 rfl rfl args h hl
end Go.Eng.E3

namespace Go.Eng.E3
open Go Go.Eng Go.Proofs
set_option maxRecDepth 100000

/-! ### 51: gauntlet/gauntletref09.Firsts -/
noncomputable def r51_0 : Code := navF Try.f51 [0]
noncomputable def o51_0 : List Oper := [sop (some 1) (.box 34 (.tmp 0)) none,
    sop (some 2) (.assign (.const (.slice none 0 0))) none]
theorem xr51_0 : Xr 51 49 r51_0 o51_0 [] := execI_reg' (by kernel_rfl)
noncomputable def r51_1 : Code := navF Try.f51 [1, 0]
noncomputable def o51_1 : List Oper := [sop (some 9) (.load 34 (.tmp 1)) none,
    sop (some 10) (.call { callee := (.value (.func 77)), args := #[(.tmp 9)], argTypes := #[34] }) none,
    sop (some 3) (.assign (.tmp 10)) none]
theorem xr51_1 : Xr 51 49 r51_1 o51_1 [] := execI_reg' (by kernel_rfl)
noncomputable def r51_2 : Code := navF Try.f51 [1, 1, 0]
noncomputable def o51_2 : List Oper := [sop (some 11) (.load 34 (.tmp 1)) none,
    sop (some 12) (.call { callee := (.value (.func 78)), args := #[(.tmp 11)], argTypes := #[34] }) none,
    sop (some 4) (.assign (.tmp 12)) none]
theorem xr51_2 : Xr 51 49 r51_2 o51_2 [] := execI_reg' (by kernel_rfl)
noncomputable def r51_3 : Code := navF Try.f51 [1, 1, 1, 0]
noncomputable def o51_3 : List Oper := [sop (some 5) (.assign (.const (.slice none 0 0))) none]
theorem xr51_3 : Xr 51 49 r51_3 o51_3 [] := execI_reg' (by kernel_rfl)
noncomputable def r51_4 : Code := navF Try.f51 [1, 1, 1, 1, 0, 0]
noncomputable def o51_4 : List Oper := [sop (some 6) (.assign (.const (.int .i64 0))) none]
theorem xr51_4 : Xr 51 49 r51_4 o51_4 [] := execI_reg' (by kernel_rfl)
noncomputable def l51_0 : Code := navF Try.f51 [1, 1, 1, 1, 0, 1, 0, 0]
noncomputable def r51_5 : Code := navF Try.f51 [1, 1, 1, 1, 0, 1, 0, 0, 0, 0]
noncomputable def o51_5 : List Oper := [sop (some 13) (.move (.tmp 6)) none,
    sop (some 14) (.move (.tmp 4)) none,
    sop (some 15) (.call { callee := (.builtin .len), args := #[(.tmp 14)], argTypes := #[62] }) none,
    sop (some 16) (.binOp .lss 3 (.tmp 13) (.tmp 15) 3) none]
theorem xr51_5 : Xr 51 49 r51_5 o51_5 [] := execI_reg' (by kernel_rfl)
noncomputable def r51_7 : Code := navF Try.f51 [1, 1, 1, 1, 0, 1, 0, 0, 1, 0, 0, 0]
noncomputable def o51_7 : List Oper := [sop (some 7) (.assign (.const (.int .i64 0))) none]
theorem xr51_7 : Xr 51 49 r51_7 o51_7 [] := execI_reg' (by kernel_rfl)
noncomputable def r51_8 : Code := navF Try.f51 [1, 1, 1, 1, 0, 1, 0, 0, 1, 0, 0, 1, 0, 0]
noncomputable def o51_8 : List Oper := [sop (some 8) (.assign (.const (.int .i64 0))) none]
theorem xr51_8 : Xr 51 49 r51_8 o51_8 [] := execI_reg' (by kernel_rfl)
noncomputable def l51_1 : Code := navF Try.f51 [1, 1, 1, 1, 0, 1, 0, 0, 1, 0, 0, 1, 0, 1, 0, 0]
noncomputable def r51_9 : Code := navF Try.f51 [1, 1, 1, 1, 0, 1, 0, 0, 1, 0, 0, 1, 0, 1, 0, 0, 0, 0]
noncomputable def o51_9 : List Oper := [sop (some 19) (.move (.tmp 8)) none,
    sop (some 20) (.move (.tmp 6)) none,
    sop (some 21) (.binOp .lss 3 (.tmp 19) (.tmp 20) 3) none]
theorem xr51_9 : Xr 51 49 r51_9 o51_9 [] := execI_reg' (by kernel_rfl)
noncomputable def r51_11 : Code := navF Try.f51 [1, 1, 1, 1, 0, 1, 0, 0, 1, 0, 0, 1, 0, 1, 0, 0, 1, 0, 0, 0]
noncomputable def o51_11 : List Oper := [sop (some 24) (.move (.tmp 3)) none,
    sop (some 25) (.move (.tmp 4)) none,
    sop (some 26) (.move (.tmp 8)) none,
    sop (some 27) (.indexAddr 62 (.tmp 25) (.tmp 26)) none,
    sop (some 28) (.load 3 (.tmp 27)) none,
    sop (some 29) (.indexAddr 62 (.tmp 24) (.tmp 28)) none,
    sop (some 30) (.load 3 (.tmp 29)) none,
    sop (some 31) (.move (.tmp 3)) none,
    sop (some 32) (.move (.tmp 4)) none,
    sop (some 33) (.move (.tmp 6)) none,
    sop (some 34) (.indexAddr 62 (.tmp 32) (.tmp 33)) none,
    sop (some 35) (.load 3 (.tmp 34)) none,
    sop (some 36) (.indexAddr 62 (.tmp 31) (.tmp 35)) none,
    sop (some 37) (.load 3 (.tmp 36)) none,
    sop (some 38) (.binOp .eql 3 (.tmp 30) (.tmp 37) 3) none]
theorem xr51_11 : Xr 51 49 r51_11 o51_11 [(4, 11), (6, 11), (4, 13), (6, 13)] := execI_reg' (by kernel_rfl)
noncomputable def r51_12 : Code := navF Try.f51 [1, 1, 1, 1, 0, 1, 0, 0, 1, 0, 0, 1, 0, 1, 0, 0, 1, 0, 0, 1, 0]
noncomputable def o51_12 : List Oper := [sop (some 7) (.assign (.const (.int .i64 1))) none]
theorem xr51_12 : Xr 51 49 r51_12 o51_12 [] := execI_reg' (by kernel_rfl)
noncomputable def r51_10 : Code := navF Try.f51 [1, 1, 1, 1, 0, 1, 0, 0, 1, 0, 0, 1, 0, 1, 0, 0, 1, 1]
noncomputable def o51_10 : List Oper := [sop (some 22) (.move (.tmp 8)) none,
    sop (some 23) (.binOp .add 3 (.tmp 22) (.const (.int .i64 1)) 3) none,
    sop (some 8) (.assign (.tmp 23)) none]
theorem xr51_10 : Xr 51 49 r51_10 o51_10 [] := execI_reg' (by kernel_rfl)
theorem cl51_1 : l51_1 = (.seq (.seq r51_9 (.cond (.tmp 21) .skip (.exit 2))) (.seq (.block 3 (.seq r51_11 (.cond (.tmp 38) r51_12 .skip))) r51_10)) := by kernel_rfl
noncomputable def r51_13 : Code := navF Try.f51 [1, 1, 1, 1, 0, 1, 0, 0, 1, 0, 0, 1, 1, 0]
noncomputable def o51_13 : List Oper := [sop (some 39) (.move (.tmp 7)) none,
    sop (some 40) (.binOp .eql 3 (.tmp 39) (.const (.int .i64 0)) 3) none]
theorem xr51_13 : Xr 51 49 r51_13 o51_13 [] := execI_reg' (by kernel_rfl)
noncomputable def r51_14 : Code := navF Try.f51 [1, 1, 1, 1, 0, 1, 0, 0, 1, 0, 0, 1, 1, 1, 0]
noncomputable def o51_14 : List Oper := [sop (some 41) (.move (.tmp 5)) none,
    sop (some 42) (.move (.tmp 4)) none,
    sop (some 43) (.move (.tmp 6)) none,
    sop (some 44) (.indexAddr 62 (.tmp 42) (.tmp 43)) none,
    sop (some 45) (.load 3 (.tmp 44)) none,
    sop (some 46) (.buildSlice 62 1 #[(0, (.tmp 45))]) none,
    sop (some 47) (.call { callee := (.builtin .append), args := #[(.tmp 41), (.tmp 46)], argTypes := #[62, 62] }) none,
    sop (some 5) (.assign (.tmp 47)) none]
theorem xr51_14 : Xr 51 49 r51_14 o51_14 [] := execI_reg' (by kernel_rfl)
noncomputable def r51_6 : Code := navF Try.f51 [1, 1, 1, 1, 0, 1, 0, 0, 1, 1]
noncomputable def o51_6 : List Oper := [sop (some 17) (.move (.tmp 6)) none,
    sop (some 18) (.binOp .add 3 (.tmp 17) (.const (.int .i64 1)) 3) none,
    sop (some 6) (.assign (.tmp 18)) none]
theorem xr51_6 : Xr 51 49 r51_6 o51_6 [] := execI_reg' (by kernel_rfl)
theorem cl51_0 : l51_0 = (.seq (.seq r51_5 (.cond (.tmp 16) .skip (.exit 0))) (.seq (.block 1 (.seq r51_7 (.seq (.seq r51_8 (.block 2 (.loop l51_1))) (.seq r51_13 (.cond (.tmp 40) r51_14 .skip))))) r51_6)) := by kernel_rfl
noncomputable def r51_15 : Code := navF Try.f51 [1, 1, 1, 1, 1, 0]
noncomputable def o51_15 : List Oper := [sop (some 48) (.move (.tmp 5)) none,
    sop (some 2) (.assign (.tmp 48)) none]
theorem xr51_15 : Xr 51 49 r51_15 o51_15 [] := execI_reg' (by kernel_rfl)
noncomputable def b51 : Code := (.seq r51_0 (.seq r51_1 (.seq r51_2 (.seq r51_3 (.seq (.seq r51_4 (.block 0 (.loop l51_0))) (.seq r51_15 .ret))))))
theorem body51 : Try.f51.body = some b51 := by kernel_rfl
theorem fn51 : E.fn 51 = some Try.f51 := by kernel_rfl
theorem run51 (args : List D) (h : H) (hl : args.length ≤ 49) : bodyI E 51 args h = resOf E [(.tmp 2)] (execI E 51 49 b51 ⟨argA args, h⟩) := bodyI_res fn51 body51 rfl rfl args h hl

/-! ### 52: gauntlet/gauntletref09.Map -/
noncomputable def r52_0 : Code := navF Try.f52 [0]
noncomputable def o52_0 : List Oper := [sop (some 1) (.box 34 (.tmp 0)) none,
    sop (some 2) (.assign (.const (.slice none 0 0))) none]
theorem xr52_0 : Xr 52 52 r52_0 o52_0 [] := execI_reg' (by kernel_rfl)
noncomputable def r52_1 : Code := navF Try.f52 [1, 0]
noncomputable def o52_1 : List Oper := [sop (some 10) (.load 34 (.tmp 1)) none,
    sop (some 11) (.call { callee := (.value (.func 77)), args := #[(.tmp 10)], argTypes := #[34] }) none,
    sop (some 3) (.assign (.tmp 11)) none]
theorem xr52_1 : Xr 52 52 r52_1 o52_1 [] := execI_reg' (by kernel_rfl)
noncomputable def r52_2 : Code := navF Try.f52 [1, 1, 0]
noncomputable def o52_2 : List Oper := [sop (some 12) (.load 34 (.tmp 1)) none,
    sop (some 13) (.call { callee := (.value (.func 51)), args := #[(.tmp 12)], argTypes := #[34] }) none,
    sop (some 4) (.assign (.tmp 13)) none]
theorem xr52_2 : Xr 52 52 r52_2 o52_2 [] := execI_reg' (by kernel_rfl)
noncomputable def r52_3 : Code := navF Try.f52 [1, 1, 1, 0]
noncomputable def o52_3 : List Oper := [sop (some 14) (.load 34 (.tmp 1)) none,
    sop (some 15) (.call { callee := (.value (.func 79)), args := #[(.tmp 14), (.const (.int .i64 0))], argTypes := #[34, 3] }) none,
    sop (some 5) (.assign (.tmp 15)) none]
theorem xr52_3 : Xr 52 52 r52_3 o52_3 [] := execI_reg' (by kernel_rfl)
noncomputable def r52_4 : Code := navF Try.f52 [1, 1, 1, 1, 0]
noncomputable def o52_4 : List Oper := [sop (some 6) (.assign (.const (.slice none 0 0))) none]
theorem xr52_4 : Xr 52 52 r52_4 o52_4 [] := execI_reg' (by kernel_rfl)
noncomputable def r52_5 : Code := navF Try.f52 [1, 1, 1, 1, 1, 0, 0]
noncomputable def o52_5 : List Oper := [sop (some 7) (.assign (.const (.int .i64 0))) none]
theorem xr52_5 : Xr 52 52 r52_5 o52_5 [] := execI_reg' (by kernel_rfl)
noncomputable def l52_0 : Code := navF Try.f52 [1, 1, 1, 1, 1, 0, 1, 0, 0]
noncomputable def r52_6 : Code := navF Try.f52 [1, 1, 1, 1, 1, 0, 1, 0, 0, 0, 0]
noncomputable def o52_6 : List Oper := [sop (some 16) (.move (.tmp 7)) none,
    sop (some 17) (.move (.tmp 3)) none,
    sop (some 18) (.call { callee := (.builtin .len), args := #[(.tmp 17)], argTypes := #[62] }) none,
    sop (some 19) (.binOp .lss 3 (.tmp 16) (.tmp 18) 3) none]
theorem xr52_6 : Xr 52 52 r52_6 o52_6 [] := execI_reg' (by kernel_rfl)
noncomputable def r52_8 : Code := navF Try.f52 [1, 1, 1, 1, 1, 0, 1, 0, 0, 1, 0, 0, 0]
noncomputable def o52_8 : List Oper := [sop (some 8) (.assign (.const (.int .i64 (-1)))) none]
theorem xr52_8 : Xr 52 52 r52_8 o52_8 [] := execI_reg' (by kernel_rfl)
noncomputable def r52_9 : Code := navF Try.f52 [1, 1, 1, 1, 1, 0, 1, 0, 0, 1, 0, 0, 1, 0, 0]
noncomputable def o52_9 : List Oper := [sop (some 9) (.assign (.const (.int .i64 0))) none]
theorem xr52_9 : Xr 52 52 r52_9 o52_9 [] := execI_reg' (by kernel_rfl)
noncomputable def l52_1 : Code := navF Try.f52 [1, 1, 1, 1, 1, 0, 1, 0, 0, 1, 0, 0, 1, 0, 1, 0, 0]
noncomputable def r52_10 : Code := navF Try.f52 [1, 1, 1, 1, 1, 0, 1, 0, 0, 1, 0, 0, 1, 0, 1, 0, 0, 0, 0]
noncomputable def o52_10 : List Oper := [sop (some 22) (.move (.tmp 9)) none,
    sop (some 23) (.move (.tmp 4)) none,
    sop (some 24) (.call { callee := (.builtin .len), args := #[(.tmp 23)], argTypes := #[62] }) none,
    sop (some 25) (.binOp .lss 3 (.tmp 22) (.tmp 24) 3) none]
theorem xr52_10 : Xr 52 52 r52_10 o52_10 [] := execI_reg' (by kernel_rfl)
noncomputable def r52_12 : Code := navF Try.f52 [1, 1, 1, 1, 1, 0, 1, 0, 0, 1, 0, 0, 1, 0, 1, 0, 0, 1, 0, 0, 0]
noncomputable def o52_12 : List Oper := [sop (some 28) (.move (.tmp 5)) none,
    sop (some 29) (.move (.tmp 7)) none,
    sop (some 30) (.indexAddr 123 (.tmp 28) (.tmp 29)) none,
    sop (some 31) (.load 4 (.tmp 30)) none,
    sop (some 32) (.move (.tmp 31)) none,
    sop (some 33) (.move (.tmp 3)) (some (4, true)),
    sop (some 34) (.move (.tmp 4)) (some (4, true)),
    sop (some 35) (.move (.tmp 9)) (some (4, true)),
    sop (some 36) (.indexAddr 62 (.tmp 34) (.tmp 35)) (some (4, true)),
    sop (some 37) (.load 3 (.tmp 36)) (some (4, true)),
    sop (some 38) (.indexAddr 62 (.tmp 33) (.tmp 37)) (some (4, true)),
    sop (some 39) (.load 3 (.tmp 38)) (some (4, true)),
    sop (some 40) (.move (.tmp 3)) (some (4, true)),
    sop (some 41) (.move (.tmp 7)) (some (4, true)),
    sop (some 42) (.indexAddr 62 (.tmp 40) (.tmp 41)) (some (4, true)),
    sop (some 43) (.load 3 (.tmp 42)) (some (4, true)),
    sop (some 44) (.binOp .eql 3 (.tmp 39) (.tmp 43) 3) (some (4, true)),
    sop (some 45) (.pick (.tmp 32) (.tmp 44) (.const (.bool false))) none]
theorem xr52_12 : Xr 52 52 r52_12 o52_12 [(9, 15), (11, 15)] := execI_reg' (by kernel_rfl)
noncomputable def r52_13 : Code := navF Try.f52 [1, 1, 1, 1, 1, 0, 1, 0, 0, 1, 0, 0, 1, 0, 1, 0, 0, 1, 0, 0, 1, 0]
noncomputable def o52_13 : List Oper := [sop (some 46) (.move (.tmp 9)) none,
    sop (some 8) (.assign (.tmp 46)) none]
theorem xr52_13 : Xr 52 52 r52_13 o52_13 [] := execI_reg' (by kernel_rfl)
noncomputable def r52_11 : Code := navF Try.f52 [1, 1, 1, 1, 1, 0, 1, 0, 0, 1, 0, 0, 1, 0, 1, 0, 0, 1, 1]
noncomputable def o52_11 : List Oper := [sop (some 26) (.move (.tmp 9)) none,
    sop (some 27) (.binOp .add 3 (.tmp 26) (.const (.int .i64 1)) 3) none,
    sop (some 9) (.assign (.tmp 27)) none]
theorem xr52_11 : Xr 52 52 r52_11 o52_11 [] := execI_reg' (by kernel_rfl)
theorem cl52_1 : l52_1 = (.seq (.seq r52_10 (.cond (.tmp 25) .skip (.exit 2))) (.seq (.block 3 (.seq r52_12 (.cond (.tmp 45) r52_13 .skip))) r52_11)) := by kernel_rfl
noncomputable def r52_14 : Code := navF Try.f52 [1, 1, 1, 1, 1, 0, 1, 0, 0, 1, 0, 0, 1, 1]
noncomputable def o52_14 : List Oper := [sop (some 47) (.move (.tmp 6)) none,
    sop (some 48) (.move (.tmp 8)) none,
    sop (some 49) (.buildSlice 62 1 #[(0, (.tmp 48))]) none,
    sop (some 50) (.call { callee := (.builtin .append), args := #[(.tmp 47), (.tmp 49)], argTypes := #[62, 62] }) none,
    sop (some 6) (.assign (.tmp 50)) none]
theorem xr52_14 : Xr 52 52 r52_14 o52_14 [] := execI_reg' (by kernel_rfl)
noncomputable def r52_7 : Code := navF Try.f52 [1, 1, 1, 1, 1, 0, 1, 0, 0, 1, 1]
noncomputable def o52_7 : List Oper := [sop (some 20) (.move (.tmp 7)) none,
    sop (some 21) (.binOp .add 3 (.tmp 20) (.const (.int .i64 1)) 3) none,
    sop (some 7) (.assign (.tmp 21)) none]
theorem xr52_7 : Xr 52 52 r52_7 o52_7 [] := execI_reg' (by kernel_rfl)
theorem cl52_0 : l52_0 = (.seq (.seq r52_6 (.cond (.tmp 19) .skip (.exit 0))) (.seq (.block 1 (.seq r52_8 (.seq (.seq r52_9 (.block 2 (.loop l52_1))) r52_14))) r52_7)) := by kernel_rfl
noncomputable def r52_15 : Code := navF Try.f52 [1, 1, 1, 1, 1, 1, 0]
noncomputable def o52_15 : List Oper := [sop (some 51) (.move (.tmp 6)) none,
    sop (some 2) (.assign (.tmp 51)) none]
theorem xr52_15 : Xr 52 52 r52_15 o52_15 [] := execI_reg' (by kernel_rfl)
noncomputable def b52 : Code := (.seq r52_0 (.seq r52_1 (.seq r52_2 (.seq r52_3 (.seq r52_4 (.seq (.seq r52_5 (.block 0 (.loop l52_0))) (.seq r52_15 .ret)))))))
theorem body52 : Try.f52.body = some b52 := by kernel_rfl
theorem fn52 : E.fn 52 = some Try.f52 := by kernel_rfl
theorem run52 (args : List D) (h : H) (hl : args.length ≤ 52) : bodyI E 52 args h = resOf E [(.tmp 2)] (execI E 52 52 b52 ⟨argA args, h⟩) := bodyI_res fn52 body52 rfl rfl args h hl

/-! ### 20: gauntlet/gauntletref09.Minimal -/
noncomputable def r20_0 : Code := navF Try.f20 [0]
noncomputable def o20_0 : List Oper := [sop (some 1) (.box 34 (.tmp 0)) none,
    sop (some 2) (.alloc 34) none]
theorem xr20_0 : Xr 20 62 r20_0 o20_0 [] := execI_reg' (by kernel_rfl)
noncomputable def r20_1 : Code := navF Try.f20 [1, 0]
noncomputable def o20_1 : List Oper := [sop (some 10) (.load 34 (.tmp 1)) none,
    sop (some 11) (.call { callee := (.value (.func 51)), args := #[(.tmp 10)], argTypes := #[34] }) none,
    sop (some 3) (.assign (.tmp 11)) none]
theorem xr20_1 : Xr 20 62 r20_1 o20_1 [] := execI_reg' (by kernel_rfl)
noncomputable def r20_2 : Code := navF Try.f20 [1, 1, 0]
noncomputable def o20_2 : List Oper := [sop (some 12) (.load 34 (.tmp 1)) none,
    sop (some 13) (.call { callee := (.value (.func 52)), args := #[(.tmp 12)], argTypes := #[34] }) none,
    sop (some 4) (.assign (.tmp 13)) none]
theorem xr20_2 : Xr 20 62 r20_2 o20_2 [] := execI_reg' (by kernel_rfl)
noncomputable def r20_3 : Code := navF Try.f20 [1, 1, 1, 0]
noncomputable def o20_3 : List Oper := [sop (some 14) (.fieldAddr 34 (.tmp 1) 0) none,
    sop (some 15) (.load 3 (.tmp 14)) none,
    sop (some 16) (.fieldAddr 34 (.tmp 1) 1) none,
    sop (some 17) (.load 3 (.tmp 16)) none,
    sop (some 18) (.build 34 #[(0, (.tmp 15)), (1, (.tmp 17))]) none,
    sop (some 5) (.alloc 34) none,
    sop none (.store 34 (.tmp 5) (.tmp 18)) none]
theorem xr20_3 : Xr 20 62 r20_3 o20_3 [] := execI_reg' (by kernel_rfl)
noncomputable def r20_4 : Code := navF Try.f20 [1, 1, 1, 1, 0, 0]
noncomputable def o20_4 : List Oper := [sop (some 6) (.assign (.const (.int .i64 0))) none]
theorem xr20_4 : Xr 20 62 r20_4 o20_4 [] := execI_reg' (by kernel_rfl)
noncomputable def l20_0 : Code := navF Try.f20 [1, 1, 1, 1, 0, 1, 0, 0]
noncomputable def r20_5 : Code := navF Try.f20 [1, 1, 1, 1, 0, 1, 0, 0, 0, 0]
noncomputable def o20_5 : List Oper := [sop (some 19) (.move (.tmp 6)) none,
    sop (some 20) (.move (.tmp 3)) none,
    sop (some 21) (.call { callee := (.builtin .len), args := #[(.tmp 20)], argTypes := #[62] }) none,
    sop (some 22) (.binOp .lss 3 (.tmp 19) (.tmp 21) 3) none]
theorem xr20_5 : Xr 20 62 r20_5 o20_5 [] := execI_reg' (by kernel_rfl)
noncomputable def r20_7 : Code := navF Try.f20 [1, 1, 1, 1, 0, 1, 0, 0, 1, 0, 0, 0]
noncomputable def o20_7 : List Oper := [sop (some 7) (.assign (.const (.slice none 0 0))) none]
theorem xr20_7 : Xr 20 62 r20_7 o20_7 [] := execI_reg' (by kernel_rfl)
noncomputable def r20_8 : Code := navF Try.f20 [1, 1, 1, 1, 0, 1, 0, 0, 1, 0, 0, 1, 0, 0]
noncomputable def o20_8 : List Oper := [sop (some 8) (.assign (.const (.int .i64 0))) none]
theorem xr20_8 : Xr 20 62 r20_8 o20_8 [] := execI_reg' (by kernel_rfl)
noncomputable def l20_1 : Code := navF Try.f20 [1, 1, 1, 1, 0, 1, 0, 0, 1, 0, 0, 1, 0, 1, 0, 0]
noncomputable def r20_9 : Code := navF Try.f20 [1, 1, 1, 1, 0, 1, 0, 0, 1, 0, 0, 1, 0, 1, 0, 0, 0, 0]
noncomputable def o20_9 : List Oper := [sop (some 25) (.move (.tmp 8)) none,
    sop (some 26) (.fieldAddr 34 (.tmp 1) 0) none,
    sop (some 27) (.load 3 (.tmp 26)) none,
    sop (some 28) (.binOp .lss 3 (.tmp 25) (.tmp 27) 3) none]
theorem xr20_9 : Xr 20 62 r20_9 o20_9 [] := execI_reg' (by kernel_rfl)
noncomputable def r20_11 : Code := navF Try.f20 [1, 1, 1, 1, 0, 1, 0, 0, 1, 0, 0, 1, 0, 1, 0, 0, 1, 0, 0, 0]
noncomputable def o20_11 : List Oper := [sop (some 31) (.fieldAddr 34 (.tmp 1) 2) none,
    sop (some 32) (.load 32 (.tmp 31)) none,
    sop (some 33) (.move (.tmp 3)) none,
    sop (some 34) (.move (.tmp 6)) none,
    sop (some 35) (.indexAddr 62 (.tmp 33) (.tmp 34)) none,
    sop (some 36) (.load 3 (.tmp 35)) none,
    sop (some 37) (.indexAddr 32 (.tmp 32) (.tmp 36)) none,
    sop (some 38) (.load 72 (.tmp 37)) none,
    sop (some 39) (.move (.tmp 8)) none,
    sop (some 40) (.indexAddr 72 (.tmp 38) (.tmp 39)) none,
    sop (some 41) (.load 55 (.tmp 40)) none,
    sop (some 9) (.alloc 55) none,
    sop none (.store 55 (.tmp 9) (.tmp 41)) none]
theorem xr20_11 : Xr 20 62 r20_11 o20_11 [(1, 5), (1, 11), (5, 11), (7, 11), (10, 11)] := execI_reg' (by kernel_rfl)
noncomputable def r20_12 : Code := navF Try.f20 [1, 1, 1, 1, 0, 1, 0, 0, 1, 0, 0, 1, 0, 1, 0, 0, 1, 0, 0, 1, 0, 0]
noncomputable def o20_12 : List Oper := [sop (some 42) (.fieldAddr 55 (.tmp 9) 0) none,
    sop (some 43) (.load 3 (.tmp 42)) none,
    sop (some 44) (.binOp .geq 3 (.tmp 43) (.const (.int .i64 0)) 3) none]
theorem xr20_12 : Xr 20 62 r20_12 o20_12 [] := execI_reg' (by kernel_rfl)
noncomputable def r20_13 : Code := navF Try.f20 [1, 1, 1, 1, 0, 1, 0, 0, 1, 0, 0, 1, 0, 1, 0, 0, 1, 0, 0, 1, 0, 1, 0]
noncomputable def o20_13 : List Oper := [sop (some 45) (.move (.tmp 4)) none,
    sop (some 46) (.fieldAddr 55 (.tmp 9) 0) none,
    sop (some 47) (.load 3 (.tmp 46)) none,
    sop (some 48) (.indexAddr 62 (.tmp 45) (.tmp 47)) none,
    sop (some 49) (.load 3 (.tmp 48)) none,
    sop (some 50) (.fieldAddr 55 (.tmp 9) 0) none,
    sop none (.store 3 (.tmp 50) (.tmp 49)) none]
theorem xr20_13 : Xr 20 62 r20_13 o20_13 [] := execI_reg' (by kernel_rfl)
noncomputable def r20_14 : Code := navF Try.f20 [1, 1, 1, 1, 0, 1, 0, 0, 1, 0, 0, 1, 0, 1, 0, 0, 1, 0, 0, 1, 1]
noncomputable def o20_14 : List Oper := [sop (some 51) (.move (.tmp 7)) none,
    sop (some 52) (.load 55 (.tmp 9)) none,
    sop (some 53) (.buildSlice 72 1 #[(0, (.tmp 52))]) none,
    sop (some 54) (.call { callee := (.builtin .append), args := #[(.tmp 51), (.tmp 53)], argTypes := #[72, 72] }) none,
    sop (some 7) (.assign (.tmp 54)) none]
theorem xr20_14 : Xr 20 62 r20_14 o20_14 [] := execI_reg' (by kernel_rfl)
noncomputable def r20_10 : Code := navF Try.f20 [1, 1, 1, 1, 0, 1, 0, 0, 1, 0, 0, 1, 0, 1, 0, 0, 1, 1]
noncomputable def o20_10 : List Oper := [sop (some 29) (.move (.tmp 8)) none,
    sop (some 30) (.binOp .add 3 (.tmp 29) (.const (.int .i64 1)) 3) none,
    sop (some 8) (.assign (.tmp 30)) none]
theorem xr20_10 : Xr 20 62 r20_10 o20_10 [] := execI_reg' (by kernel_rfl)
theorem cl20_1 : l20_1 = (.seq (.seq r20_9 (.cond (.tmp 28) .skip (.exit 2))) (.seq (.block 3 (.seq r20_11 (.seq (.seq r20_12 (.cond (.tmp 44) r20_13 .skip)) r20_14))) r20_10)) := by kernel_rfl
noncomputable def r20_15 : Code := navF Try.f20 [1, 1, 1, 1, 0, 1, 0, 0, 1, 0, 0, 1, 1]
noncomputable def o20_15 : List Oper := [sop (some 55) (.fieldAddr 34 (.tmp 5) 2) none,
    sop (some 56) (.load 32 (.tmp 55)) none,
    sop (some 57) (.move (.tmp 7)) none,
    sop (some 58) (.buildSlice 32 1 #[(0, (.tmp 57))]) none,
    sop (some 59) (.call { callee := (.builtin .append), args := #[(.tmp 56), (.tmp 58)], argTypes := #[32, 32] }) none,
    sop (some 60) (.fieldAddr 34 (.tmp 5) 2) none,
    sop none (.store 32 (.tmp 60) (.tmp 59)) none]
theorem xr20_15 : Xr 20 62 r20_15 o20_15 [] := execI_reg' (by kernel_rfl)
noncomputable def r20_6 : Code := navF Try.f20 [1, 1, 1, 1, 0, 1, 0, 0, 1, 1]
noncomputable def o20_6 : List Oper := [sop (some 23) (.move (.tmp 6)) none,
    sop (some 24) (.binOp .add 3 (.tmp 23) (.const (.int .i64 1)) 3) none,
    sop (some 6) (.assign (.tmp 24)) none]
theorem xr20_6 : Xr 20 62 r20_6 o20_6 [] := execI_reg' (by kernel_rfl)
theorem cl20_0 : l20_0 = (.seq (.seq r20_5 (.cond (.tmp 22) .skip (.exit 0))) (.seq (.block 1 (.seq r20_7 (.seq (.seq r20_8 (.block 2 (.loop l20_1))) r20_15))) r20_6)) := by kernel_rfl
noncomputable def r20_16 : Code := navF Try.f20 [1, 1, 1, 1, 1, 0]
noncomputable def o20_16 : List Oper := [sop (some 61) (.load 34 (.tmp 5)) none,
    sop none (.store 34 (.tmp 2) (.tmp 61)) none]
theorem xr20_16 : Xr 20 62 r20_16 o20_16 [] := execI_reg' (by kernel_rfl)
noncomputable def b20 : Code := (.seq r20_0 (.seq r20_1 (.seq r20_2 (.seq r20_3 (.seq (.seq r20_4 (.block 0 (.loop l20_0))) (.seq r20_16 .ret))))))
theorem body20 : Try.f20.body = some b20 := by kernel_rfl
theorem fn20 : E.fn 20 = some Try.f20 := by kernel_rfl
theorem run20 (args : List D) (h : H) (hl : args.length ≤ 62) : bodyI E 20 args h = resOf E [(.cell 2 34)] (execI E 20 62 b20 ⟨argA args, h⟩) := bodyI_res fn20 body20 rfl rfl args h hl
end Go.Eng.E3

namespace Go.Eng.E3
open Go Go.Eng Go.Proofs
set_option maxRecDepth 100000

/-! ### 16: gauntlet/gauntletref04.Same -/
noncomputable def r16_0 : Code := navF Try.f16 [0]
noncomputable def o16_0 : List Oper := [sop (some 2) (.box 34 (.tmp 0)) none,
    sop (some 3) (.box 34 (.tmp 1)) none,
    sop (some 4) (.assign (.const (.bool false))) none]
theorem xr16_0 : Xr 16 75 r16_0 o16_0 [] := execI_reg' (by kernel_rfl)
noncomputable def r16_1 : Code := navF Try.f16 [1, 0, 0]
noncomputable def o16_1 : List Oper := [sop (some 7) (.fieldAddr 34 (.tmp 2) 0) none,
    sop (some 8) (.load 3 (.tmp 7)) none,
    sop (some 9) (.fieldAddr 34 (.tmp 3) 0) none,
    sop (some 10) (.load 3 (.tmp 9)) none,
    sop (some 11) (.binOp .neq 3 (.tmp 8) (.tmp 10) 3) none,
    sop (some 12) (.move (.tmp 11)) none,
    sop (some 13) (.fieldAddr 34 (.tmp 2) 1) (some (5, false)),
    sop (some 14) (.load 3 (.tmp 13)) (some (5, false)),
    sop (some 15) (.fieldAddr 34 (.tmp 3) 1) (some (5, false)),
    sop (some 16) (.load 3 (.tmp 15)) (some (5, false)),
    sop (some 17) (.binOp .neq 3 (.tmp 14) (.tmp 16) 3) (some (5, false)),
    sop (some 18) (.pick (.tmp 12) (.const (.bool true)) (.tmp 17)) none,
    sop (some 19) (.move (.tmp 18)) none,
    sop (some 20) (.fieldAddr 34 (.tmp 2) 2) (some (12, false)),
    sop (some 21) (.load 32 (.tmp 20)) (some (12, false)),
    sop (some 22) (.call { callee := (.builtin .len), args := #[(.tmp 21)], argTypes := #[32] }) (some (12, false)),
    sop (some 23) (.fieldAddr 34 (.tmp 3) 2) (some (12, false)),
    sop (some 24) (.load 32 (.tmp 23)) (some (12, false)),
    sop (some 25) (.call { callee := (.builtin .len), args := #[(.tmp 24)], argTypes := #[32] }) (some (12, false)),
    sop (some 26) (.binOp .neq 3 (.tmp 22) (.tmp 25) 3) (some (12, false)),
    sop (some 27) (.pick (.tmp 19) (.const (.bool true)) (.tmp 26)) none]
theorem xr16_1 : Xr 16 75 r16_1 o16_1 [] := execI_reg' (by kernel_rfl)
noncomputable def r16_2 : Code := navF Try.f16 [1, 0, 1, 0, 0]
noncomputable def o16_2 : List Oper := [sop (some 4) (.assign (.const (.bool false))) none]
theorem xr16_2 : Xr 16 75 r16_2 o16_2 [] := execI_reg' (by kernel_rfl)
noncomputable def r16_3 : Code := navF Try.f16 [1, 1, 0, 0]
noncomputable def o16_3 : List Oper := [sop (some 5) (.assign (.const (.int .i64 0))) none]
theorem xr16_3 : Xr 16 75 r16_3 o16_3 [] := execI_reg' (by kernel_rfl)
noncomputable def l16_0 : Code := navF Try.f16 [1, 1, 0, 1, 0, 0]
noncomputable def r16_4 : Code := navF Try.f16 [1, 1, 0, 1, 0, 0, 0, 0]
noncomputable def o16_4 : List Oper := [sop (some 28) (.move (.tmp 5)) none,
    sop (some 29) (.fieldAddr 34 (.tmp 2) 2) none,
    sop (some 30) (.load 32 (.tmp 29)) none,
    sop (some 31) (.call { callee := (.builtin .len), args := #[(.tmp 30)], argTypes := #[32] }) none,
    sop (some 32) (.binOp .lss 3 (.tmp 28) (.tmp 31) 3) none]
theorem xr16_4 : Xr 16 75 r16_4 o16_4 [] := execI_reg' (by kernel_rfl)
noncomputable def r16_6 : Code := navF Try.f16 [1, 1, 0, 1, 0, 0, 1, 0, 0, 0, 0]
noncomputable def o16_6 : List Oper := [sop (some 35) (.fieldAddr 34 (.tmp 2) 2) none,
    sop (some 36) (.load 32 (.tmp 35)) none,
    sop (some 37) (.move (.tmp 5)) none,
    sop (some 38) (.indexAddr 32 (.tmp 36) (.tmp 37)) none,
    sop (some 39) (.load 72 (.tmp 38)) none,
    sop (some 40) (.call { callee := (.builtin .len), args := #[(.tmp 39)], argTypes := #[72] }) none,
    sop (some 41) (.fieldAddr 34 (.tmp 3) 2) none,
    sop (some 42) (.load 32 (.tmp 41)) none,
    sop (some 43) (.move (.tmp 5)) none,
    sop (some 44) (.indexAddr 32 (.tmp 42) (.tmp 43)) none,
    sop (some 45) (.load 72 (.tmp 44)) none,
    sop (some 46) (.call { callee := (.builtin .len), args := #[(.tmp 45)], argTypes := #[72] }) none,
    sop (some 47) (.binOp .neq 3 (.tmp 40) (.tmp 46) 3) none]
theorem xr16_6 : Xr 16 75 r16_6 o16_6 [(1, 7), (4, 7), (5, 7), (1, 10), (4, 10), (5, 10), (1, 11), (4, 11), (5, 11)] := execI_reg' (by kernel_rfl)
noncomputable def r16_7 : Code := navF Try.f16 [1, 1, 0, 1, 0, 0, 1, 0, 0, 0, 1, 0, 0]
noncomputable def o16_7 : List Oper := [sop (some 4) (.assign (.const (.bool false))) none]
theorem xr16_7 : Xr 16 75 r16_7 o16_7 [] := execI_reg' (by kernel_rfl)
noncomputable def r16_8 : Code := navF Try.f16 [1, 1, 0, 1, 0, 0, 1, 0, 0, 1, 0]
noncomputable def o16_8 : List Oper := [sop (some 6) (.assign (.const (.int .i64 0))) none]
theorem xr16_8 : Xr 16 75 r16_8 o16_8 [] := execI_reg' (by kernel_rfl)
noncomputable def l16_1 : Code := navF Try.f16 [1, 1, 0, 1, 0, 0, 1, 0, 0, 1, 1, 0, 0]
noncomputable def r16_9 : Code := navF Try.f16 [1, 1, 0, 1, 0, 0, 1, 0, 0, 1, 1, 0, 0, 0, 0]
noncomputable def o16_9 : List Oper := [sop (some 48) (.move (.tmp 6)) none,
    sop (some 49) (.fieldAddr 34 (.tmp 2) 2) none,
    sop (some 50) (.load 32 (.tmp 49)) none,
    sop (some 51) (.move (.tmp 5)) none,
    sop (some 52) (.indexAddr 32 (.tmp 50) (.tmp 51)) none,
    sop (some 53) (.load 72 (.tmp 52)) none,
    sop (some 54) (.call { callee := (.builtin .len), args := #[(.tmp 53)], argTypes := #[72] }) none,
    sop (some 55) (.binOp .lss 3 (.tmp 48) (.tmp 54) 3) none]
theorem xr16_9 : Xr 16 75 r16_9 o16_9 [] := execI_reg' (by kernel_rfl)
noncomputable def r16_11 : Code := navF Try.f16 [1, 1, 0, 1, 0, 0, 1, 0, 0, 1, 1, 0, 0, 1, 0, 0, 0]
noncomputable def o16_11 : List Oper := [sop (some 58) (.fieldAddr 34 (.tmp 2) 2) none,
    sop (some 59) (.load 32 (.tmp 58)) none,
    sop (some 60) (.move (.tmp 5)) none,
    sop (some 61) (.indexAddr 32 (.tmp 59) (.tmp 60)) none,
    sop (some 62) (.load 72 (.tmp 61)) none,
    sop (some 63) (.move (.tmp 6)) none,
    sop (some 64) (.indexAddr 72 (.tmp 62) (.tmp 63)) none,
    sop (some 65) (.load 55 (.tmp 64)) none,
    sop (some 66) (.fieldAddr 34 (.tmp 3) 2) none,
    sop (some 67) (.load 32 (.tmp 66)) none,
    sop (some 68) (.move (.tmp 5)) none,
    sop (some 69) (.indexAddr 32 (.tmp 67) (.tmp 68)) none,
    sop (some 70) (.load 72 (.tmp 69)) none,
    sop (some 71) (.move (.tmp 6)) none,
    sop (some 72) (.indexAddr 72 (.tmp 70) (.tmp 71)) none,
    sop (some 73) (.load 55 (.tmp 72)) none,
    sop (some 74) (.binOp .neq 55 (.tmp 65) (.tmp 73) 55) none]
theorem xr16_11 : Xr 16 75 r16_11 o16_11 [(1, 9), (4, 9), (7, 9), (1, 12), (4, 12), (7, 12), (1, 15), (4, 15), (7, 15)] := execI_reg' (by kernel_rfl)
noncomputable def r16_12 : Code := navF Try.f16 [1, 1, 0, 1, 0, 0, 1, 0, 0, 1, 1, 0, 0, 1, 0, 0, 1, 0, 0]
noncomputable def o16_12 : List Oper := [sop (some 4) (.assign (.const (.bool false))) none]
theorem xr16_12 : Xr 16 75 r16_12 o16_12 [] := execI_reg' (by kernel_rfl)
noncomputable def r16_10 : Code := navF Try.f16 [1, 1, 0, 1, 0, 0, 1, 0, 0, 1, 1, 0, 0, 1, 1]
noncomputable def o16_10 : List Oper := [sop (some 56) (.move (.tmp 6)) none,
    sop (some 57) (.binOp .add 3 (.tmp 56) (.const (.int .i64 1)) 3) none,
    sop (some 6) (.assign (.tmp 57)) none]
theorem xr16_10 : Xr 16 75 r16_10 o16_10 [] := execI_reg' (by kernel_rfl)
theorem cl16_1 : l16_1 = (.seq (.seq r16_9 (.cond (.tmp 55) .skip (.exit 2))) (.seq (.block 3 (.seq r16_11 (.cond (.tmp 74) (.seq r16_12 .ret) .skip))) r16_10)) := by kernel_rfl
noncomputable def r16_5 : Code := navF Try.f16 [1, 1, 0, 1, 0, 0, 1, 1]
noncomputable def o16_5 : List Oper := [sop (some 33) (.move (.tmp 5)) none,
    sop (some 34) (.binOp .add 3 (.tmp 33) (.const (.int .i64 1)) 3) none,
    sop (some 5) (.assign (.tmp 34)) none]
theorem xr16_5 : Xr 16 75 r16_5 o16_5 [] := execI_reg' (by kernel_rfl)
theorem cl16_0 : l16_0 = (.seq (.seq r16_4 (.cond (.tmp 32) .skip (.exit 0))) (.seq (.block 1 (.seq (.seq r16_6 (.cond (.tmp 47) (.seq r16_7 .ret) .skip)) (.seq r16_8 (.block 2 (.loop l16_1))))) r16_5)) := by kernel_rfl
noncomputable def r16_13 : Code := navF Try.f16 [1, 1, 1, 0]
noncomputable def o16_13 : List Oper := [sop (some 4) (.assign (.const (.bool true))) none]
theorem xr16_13 : Xr 16 75 r16_13 o16_13 [] := execI_reg' (by kernel_rfl)
noncomputable def b16 : Code := (.seq r16_0 (.seq (.seq r16_1 (.cond (.tmp 27) (.seq r16_2 .ret) .skip)) (.seq (.seq r16_3 (.block 0 (.loop l16_0))) (.seq r16_13 .ret))))
theorem body16 : Try.f16.body = some b16 := by kernel_rfl
theorem fn16 : E.fn 16 = some Try.f16 := by kernel_rfl
theorem run16 (args : List D) (h : H) (hl : args.length ≤ 75) : bodyI E 16 args h = resOf E [(.tmp 4)] (execI E 16 75 b16 ⟨argA args, h⟩) := bodyI_res fn16 body16 rfl rfl args h hl

/-! ### 102: gauntlet/gauntletref06.less -/
noncomputable def r102_0 : Code := navF Try.f102 [0]
noncomputable def o102_0 : List Oper := [sop (some 4) (.assign (.const (.int .i64 0))) none]
theorem xr102_0 : Xr 102 40 r102_0 o102_0 [] := execI_reg' (by kernel_rfl)
noncomputable def r102_1 : Code := navF Try.f102 [1, 0, 0]
noncomputable def o102_1 : List Oper := [sop (some 6) (.move (.tmp 0)) none,
    sop (some 7) (.call { callee := (.builtin .len), args := #[(.tmp 6)], argTypes := #[62] }) none,
    sop (some 8) (.move (.tmp 1)) none,
    sop (some 9) (.call { callee := (.builtin .len), args := #[(.tmp 8)], argTypes := #[62] }) none,
    sop (some 10) (.binOp .neq 3 (.tmp 7) (.tmp 9) 3) none]
theorem xr102_1 : Xr 102 40 r102_1 o102_1 [] := execI_reg' (by kernel_rfl)
noncomputable def r102_2 : Code := navF Try.f102 [1, 0, 1, 0, 0, 0]
noncomputable def o102_2 : List Oper := [sop (some 11) (.move (.tmp 0)) none,
    sop (some 12) (.call { callee := (.builtin .len), args := #[(.tmp 11)], argTypes := #[62] }) none,
    sop (some 13) (.move (.tmp 1)) none,
    sop (some 14) (.call { callee := (.builtin .len), args := #[(.tmp 13)], argTypes := #[62] }) none,
    sop (some 15) (.binOp .lss 3 (.tmp 12) (.tmp 14) 3) none]
theorem xr102_2 : Xr 102 40 r102_2 o102_2 [] := execI_reg' (by kernel_rfl)
noncomputable def r102_3 : Code := navF Try.f102 [1, 0, 1, 0, 0, 1, 0, 0]
noncomputable def o102_3 : List Oper := [sop (some 4) (.assign (.const (.int .i64 1))) none]
theorem xr102_3 : Xr 102 40 r102_3 o102_3 [] := execI_reg' (by kernel_rfl)
noncomputable def r102_4 : Code := navF Try.f102 [1, 0, 1, 0, 1, 0]
noncomputable def o102_4 : List Oper := [sop (some 4) (.assign (.const (.int .i64 0))) none]
theorem xr102_4 : Xr 102 40 r102_4 o102_4 [] := execI_reg' (by kernel_rfl)
noncomputable def r102_5 : Code := navF Try.f102 [1, 1, 0, 0]
noncomputable def o102_5 : List Oper := [sop (some 5) (.assign (.const (.int .i64 0))) none]
theorem xr102_5 : Xr 102 40 r102_5 o102_5 [] := execI_reg' (by kernel_rfl)
noncomputable def l102_0 : Code := navF Try.f102 [1, 1, 0, 1, 0, 0]
noncomputable def r102_6 : Code := navF Try.f102 [1, 1, 0, 1, 0, 0, 0, 0]
noncomputable def o102_6 : List Oper := [sop (some 16) (.move (.tmp 5)) none,
    sop (some 17) (.move (.tmp 0)) none,
    sop (some 18) (.call { callee := (.builtin .len), args := #[(.tmp 17)], argTypes := #[62] }) none,
    sop (some 19) (.binOp .lss 3 (.tmp 16) (.tmp 18) 3) none]
theorem xr102_6 : Xr 102 40 r102_6 o102_6 [] := execI_reg' (by kernel_rfl)
noncomputable def r102_8 : Code := navF Try.f102 [1, 1, 0, 1, 0, 0, 1, 0, 0, 0]
noncomputable def o102_8 : List Oper := [sop (some 22) (.move (.tmp 0)) none,
    sop (some 23) (.move (.tmp 5)) none,
    sop (some 24) (.indexAddr 62 (.tmp 22) (.tmp 23)) none,
    sop (some 25) (.load 3 (.tmp 24)) none,
    sop (some 26) (.move (.tmp 1)) none,
    sop (some 27) (.move (.tmp 5)) none,
    sop (some 28) (.indexAddr 62 (.tmp 26) (.tmp 27)) none,
    sop (some 29) (.load 3 (.tmp 28)) none,
    sop (some 30) (.binOp .neq 3 (.tmp 25) (.tmp 29) 3) none]
theorem xr102_8 : Xr 102 40 r102_8 o102_8 [(3, 7)] := execI_reg' (by kernel_rfl)
noncomputable def r102_9 : Code := navF Try.f102 [1, 1, 0, 1, 0, 0, 1, 0, 0, 1, 0, 0, 0]
noncomputable def o102_9 : List Oper := [sop (some 31) (.move (.tmp 0)) none,
    sop (some 32) (.move (.tmp 5)) none,
    sop (some 33) (.indexAddr 62 (.tmp 31) (.tmp 32)) none,
    sop (some 34) (.load 3 (.tmp 33)) none,
    sop (some 35) (.move (.tmp 1)) none,
    sop (some 36) (.move (.tmp 5)) none,
    sop (some 37) (.indexAddr 62 (.tmp 35) (.tmp 36)) none,
    sop (some 38) (.load 3 (.tmp 37)) none,
    sop (some 39) (.binOp .lss 3 (.tmp 34) (.tmp 38) 3) none]
theorem xr102_9 : Xr 102 40 r102_9 o102_9 [(3, 7)] := execI_reg' (by kernel_rfl)
noncomputable def r102_10 : Code := navF Try.f102 [1, 1, 0, 1, 0, 0, 1, 0, 0, 1, 0, 0, 1, 0, 0]
noncomputable def o102_10 : List Oper := [sop (some 4) (.assign (.const (.int .i64 1))) none]
theorem xr102_10 : Xr 102 40 r102_10 o102_10 [] := execI_reg' (by kernel_rfl)
noncomputable def r102_11 : Code := navF Try.f102 [1, 1, 0, 1, 0, 0, 1, 0, 0, 1, 0, 1, 0]
noncomputable def o102_11 : List Oper := [sop (some 4) (.assign (.const (.int .i64 0))) none]
theorem xr102_11 : Xr 102 40 r102_11 o102_11 [] := execI_reg' (by kernel_rfl)
noncomputable def r102_7 : Code := navF Try.f102 [1, 1, 0, 1, 0, 0, 1, 1]
noncomputable def o102_7 : List Oper := [sop (some 20) (.move (.tmp 5)) none,
    sop (some 21) (.binOp .add 3 (.tmp 20) (.const (.int .i64 1)) 3) none,
    sop (some 5) (.assign (.tmp 21)) none]
theorem xr102_7 : Xr 102 40 r102_7 o102_7 [] := execI_reg' (by kernel_rfl)
theorem cl102_0 : l102_0 = (.seq (.seq r102_6 (.cond (.tmp 19) .skip (.exit 0))) (.seq (.block 1 (.seq r102_8 (.cond (.tmp 30) (.seq (.seq r102_9 (.cond (.tmp 39) (.seq r102_10 .ret) .skip)) (.seq r102_11 .ret)) .skip))) r102_7)) := by kernel_rfl
noncomputable def r102_12 : Code := navF Try.f102 [1, 1, 1, 0]
noncomputable def o102_12 : List Oper := [sop (some 4) (.assign (.const (.int .i64 0))) none]
theorem xr102_12 : Xr 102 40 r102_12 o102_12 [] := execI_reg' (by kernel_rfl)
noncomputable def b102 : Code := (.seq r102_0 (.seq (.seq r102_1 (.cond (.tmp 10) (.seq (.seq r102_2 (.cond (.tmp 15) (.seq r102_3 .ret) .skip)) (.seq r102_4 .ret)) .skip)) (.seq (.seq r102_5 (.block 0 (.loop l102_0))) (.seq r102_12 .ret))))
theorem body102 : Try.f102.body = some b102 := by kernel_rfl
theorem fn102 : E.fn 102 = some Try.f102 := by kernel_rfl
theorem run102 (args : List D) (h : H) (hl : args.length ≤ 40) : bodyI E 102 args h = resOf E [(.tmp 4)] (execI E 102 40 b102 ⟨argA args, h⟩) := bodyI_res fn102 body102 rfl rfl args h hl

/-! ### 121: gauntlet/gauntletref04.After -/
noncomputable def r121_0 : Code := navF Try.f121 [0]
noncomputable def o121_0 : List Oper := [sop (some 3) (.box 34 (.tmp 0)) none,
    sop (some 6) (.assign (.const (.int .i64 0))) none]
theorem xr121_0 : Xr 121 22 r121_0 o121_0 [] := execI_reg' (by kernel_rfl)
noncomputable def r121_1 : Code := navF Try.f121 [1, 0, 0]
noncomputable def o121_1 : List Oper := [sop (some 7) (.move (.tmp 2)) none,
    sop (some 8) (.call { callee := (.builtin .len), args := #[(.tmp 7)], argTypes := #[62] }) none,
    sop (some 9) (.binOp .eql 3 (.tmp 8) (.const (.int .i64 0)) 3) none]
theorem xr121_1 : Xr 121 22 r121_1 o121_1 [] := execI_reg' (by kernel_rfl)
noncomputable def r121_2 : Code := navF Try.f121 [1, 0, 1, 0, 0]
noncomputable def o121_2 : List Oper := [sop (some 10) (.move (.tmp 1)) none,
    sop (some 6) (.assign (.tmp 10)) none]
theorem xr121_2 : Xr 121 22 r121_2 o121_2 [] := execI_reg' (by kernel_rfl)
noncomputable def r121_3 : Code := navF Try.f121 [1, 1, 0]
noncomputable def o121_3 : List Oper := [sop (some 11) (.load 34 (.tmp 3)) none,
    sop (some 12) (.load 34 (.tmp 3)) none,
    sop (some 13) (.move (.tmp 1)) none,
    sop (some 14) (.move (.tmp 2)) none,
    sop (some 15) (.indexAddr 62 (.tmp 14) (.const (.int .i64 0))) none,
    sop (some 16) (.load 3 (.tmp 15)) none,
    sop (some 17) (.call { callee := (.value (.func 54)), args := #[(.tmp 12), (.tmp 13), (.tmp 16)], argTypes := #[34, 3, 3] }) none,
    sop (some 18) (.field 55 (.tmp 17) 0) none,
    sop (some 19) (.move (.tmp 2)) none,
    sop (some 20) (.slice 62 (.tmp 19) (some (.const (.int .i64 1))) none none) none,
    sop (some 21) (.call { callee := (.value (.func 121)), args := #[(.tmp 11), (.tmp 18), (.tmp 20)], argTypes := #[34, 3, 62] }) none,
    sop (some 6) (.assign (.tmp 21)) none]
theorem xr121_3 : Xr 121 22 r121_3 o121_3 [(0, 1), (0, 5), (1, 5), (0, 6), (0, 9), (1, 9), (5, 9), (6, 9)] := execI_reg' (by kernel_rfl)
noncomputable def b121 : Code := (.seq r121_0 (.seq (.seq r121_1 (.cond (.tmp 9) (.seq r121_2 .ret) .skip)) (.seq r121_3 .ret)))
theorem body121 : Try.f121.body = some b121 := by kernel_rfl
theorem fn121 : E.fn 121 = some Try.f121 := by kernel_rfl
theorem run121 (args : List D) (h : H) (hl : args.length ≤ 22) : bodyI E 121 args h = resOf E [(.tmp 6)] (execI E 121 22 b121 ⟨argA args, h⟩) := bodyI_res fn121 body121 rfl rfl args h hl

/-! ### 79: gauntlet/gauntletref04.Reached -/
noncomputable def r79_0 : Code := navF Try.f79 [0]
noncomputable def o79_0 : List Oper := [sop (some 2) (.box 34 (.tmp 0)) none,
    sop (some 4) (.assign (.const (.slice none 0 0))) none]
theorem xr79_0 : Xr 79 58 r79_0 o79_0 [] := execI_reg' (by kernel_rfl)
noncomputable def r79_1 : Code := navF Try.f79 [1, 0]
noncomputable def o79_1 : List Oper := [sop (some 10) (.fieldAddr 34 (.tmp 2) 2) none,
    sop (some 11) (.load 32 (.tmp 10)) none,
    sop (some 12) (.call { callee := (.builtin .len), args := #[(.tmp 11)], argTypes := #[32] }) none,
    sop (some 13) (.makeSlice 123 (.tmp 12) (.tmp 12)) none,
    sop (some 5) (.assign (.tmp 13)) none]
theorem xr79_1 : Xr 79 58 r79_1 o79_1 [] := execI_reg' (by kernel_rfl)
noncomputable def r79_2 : Code := navF Try.f79 [1, 1, 0]
noncomputable def o79_2 : List Oper := [sop (some 14) (.move (.tmp 5)) none,
    sop (some 15) (.move (.tmp 1)) none,
    sop (some 16) (.indexAddr 123 (.tmp 14) (.tmp 15)) none,
    sop none (.store 4 (.tmp 16) (.const (.bool true))) none]
theorem xr79_2 : Xr 79 58 r79_2 o79_2 [] := execI_reg' (by kernel_rfl)
noncomputable def r79_3 : Code := navF Try.f79 [1, 1, 1, 0, 0]
noncomputable def o79_3 : List Oper := [sop (some 6) (.assign (.const (.int .i64 0))) none]
theorem xr79_3 : Xr 79 58 r79_3 o79_3 [] := execI_reg' (by kernel_rfl)
noncomputable def l79_0 : Code := navF Try.f79 [1, 1, 1, 0, 1, 0, 0]
noncomputable def r79_4 : Code := navF Try.f79 [1, 1, 1, 0, 1, 0, 0, 0, 0]
noncomputable def o79_4 : List Oper := [sop (some 17) (.move (.tmp 6)) none,
    sop (some 18) (.fieldAddr 34 (.tmp 2) 2) none,
    sop (some 19) (.load 32 (.tmp 18)) none,
    sop (some 20) (.call { callee := (.builtin .len), args := #[(.tmp 19)], argTypes := #[32] }) none,
    sop (some 21) (.binOp .lss 3 (.tmp 17) (.tmp 20) 3) none]
theorem xr79_4 : Xr 79 58 r79_4 o79_4 [] := execI_reg' (by kernel_rfl)
noncomputable def r79_6 : Code := navF Try.f79 [1, 1, 1, 0, 1, 0, 0, 1, 0, 0, 0]
noncomputable def o79_6 : List Oper := [sop (some 7) (.assign (.const (.int .i64 0))) none]
theorem xr79_6 : Xr 79 58 r79_6 o79_6 [] := execI_reg' (by kernel_rfl)
noncomputable def l79_1 : Code := navF Try.f79 [1, 1, 1, 0, 1, 0, 0, 1, 0, 0, 1, 0, 0]
noncomputable def r79_7 : Code := navF Try.f79 [1, 1, 1, 0, 1, 0, 0, 1, 0, 0, 1, 0, 0, 0, 0]
noncomputable def o79_7 : List Oper := [sop (some 24) (.move (.tmp 7)) none,
    sop (some 25) (.fieldAddr 34 (.tmp 2) 2) none,
    sop (some 26) (.load 32 (.tmp 25)) none,
    sop (some 27) (.call { callee := (.builtin .len), args := #[(.tmp 26)], argTypes := #[32] }) none,
    sop (some 28) (.binOp .lss 3 (.tmp 24) (.tmp 27) 3) none]
theorem xr79_7 : Xr 79 58 r79_7 o79_7 [] := execI_reg' (by kernel_rfl)
noncomputable def r79_9 : Code := navF Try.f79 [1, 1, 1, 0, 1, 0, 0, 1, 0, 0, 1, 0, 0, 1, 0, 0, 0]
noncomputable def o79_9 : List Oper := [sop (some 8) (.assign (.const (.int .i64 0))) none]
theorem xr79_9 : Xr 79 58 r79_9 o79_9 [] := execI_reg' (by kernel_rfl)
noncomputable def l79_2 : Code := navF Try.f79 [1, 1, 1, 0, 1, 0, 0, 1, 0, 0, 1, 0, 0, 1, 0, 0, 1, 0, 0]
noncomputable def r79_10 : Code := navF Try.f79 [1, 1, 1, 0, 1, 0, 0, 1, 0, 0, 1, 0, 0, 1, 0, 0, 1, 0, 0, 0, 0]
noncomputable def o79_10 : List Oper := [sop (some 31) (.move (.tmp 8)) none,
    sop (some 32) (.fieldAddr 34 (.tmp 2) 0) none,
    sop (some 33) (.load 3 (.tmp 32)) none,
    sop (some 34) (.binOp .lss 3 (.tmp 31) (.tmp 33) 3) none]
theorem xr79_10 : Xr 79 58 r79_10 o79_10 [] := execI_reg' (by kernel_rfl)
noncomputable def r79_12 : Code := navF Try.f79 [1, 1, 1, 0, 1, 0, 0, 1, 0, 0, 1, 0, 0, 1, 0, 0, 1, 0, 0, 1, 0, 0, 0]
noncomputable def o79_12 : List Oper := [sop (some 37) (.fieldAddr 34 (.tmp 2) 2) none,
    sop (some 38) (.load 32 (.tmp 37)) none,
    sop (some 39) (.move (.tmp 7)) none,
    sop (some 40) (.indexAddr 32 (.tmp 38) (.tmp 39)) none,
    sop (some 41) (.load 72 (.tmp 40)) none,
    sop (some 42) (.move (.tmp 8)) none,
    sop (some 43) (.indexAddr 72 (.tmp 41) (.tmp 42)) none,
    sop (some 44) (.fieldAddr 55 (.tmp 43) 0) none,
    sop (some 45) (.load 3 (.tmp 44)) none,
    sop (some 9) (.assign (.tmp 45)) none]
theorem xr79_12 : Xr 79 58 r79_12 o79_12 [] := execI_reg' (by kernel_rfl)
noncomputable def r79_13 : Code := navF Try.f79 [1, 1, 1, 0, 1, 0, 0, 1, 0, 0, 1, 0, 0, 1, 0, 0, 1, 0, 0, 1, 0, 0, 1, 0]
noncomputable def o79_13 : List Oper := [sop (some 46) (.move (.tmp 5)) none,
    sop (some 47) (.move (.tmp 7)) none,
    sop (some 48) (.indexAddr 123 (.tmp 46) (.tmp 47)) none,
    sop (some 49) (.load 4 (.tmp 48)) none,
    sop (some 50) (.move (.tmp 49)) none,
    sop (some 51) (.move (.tmp 9)) (some (4, true)),
    sop (some 52) (.binOp .geq 3 (.tmp 51) (.const (.int .i64 0)) 3) (some (4, true)),
    sop (some 53) (.pick (.tmp 50) (.tmp 52) (.const (.bool false))) none]
theorem xr79_13 : Xr 79 58 r79_13 o79_13 [] := execI_reg' (by kernel_rfl)
noncomputable def r79_14 : Code := navF Try.f79 [1, 1, 1, 0, 1, 0, 0, 1, 0, 0, 1, 0, 0, 1, 0, 0, 1, 0, 0, 1, 0, 0, 1, 1, 0]
noncomputable def o79_14 : List Oper := [sop (some 54) (.move (.tmp 5)) none,
    sop (some 55) (.move (.tmp 9)) none,
    sop (some 56) (.indexAddr 123 (.tmp 54) (.tmp 55)) none,
    sop none (.store 4 (.tmp 56) (.const (.bool true))) none]
theorem xr79_14 : Xr 79 58 r79_14 o79_14 [] := execI_reg' (by kernel_rfl)
noncomputable def r79_11 : Code := navF Try.f79 [1, 1, 1, 0, 1, 0, 0, 1, 0, 0, 1, 0, 0, 1, 0, 0, 1, 0, 0, 1, 1]
noncomputable def o79_11 : List Oper := [sop (some 35) (.move (.tmp 8)) none,
    sop (some 36) (.binOp .add 3 (.tmp 35) (.const (.int .i64 1)) 3) none,
    sop (some 8) (.assign (.tmp 36)) none]
theorem xr79_11 : Xr 79 58 r79_11 o79_11 [] := execI_reg' (by kernel_rfl)
theorem cl79_2 : l79_2 = (.seq (.seq r79_10 (.cond (.tmp 34) .skip (.exit 4))) (.seq (.block 5 (.seq r79_12 (.seq r79_13 (.cond (.tmp 53) r79_14 .skip)))) r79_11)) := by kernel_rfl
noncomputable def r79_8 : Code := navF Try.f79 [1, 1, 1, 0, 1, 0, 0, 1, 0, 0, 1, 0, 0, 1, 1]
noncomputable def o79_8 : List Oper := [sop (some 29) (.move (.tmp 7)) none,
    sop (some 30) (.binOp .add 3 (.tmp 29) (.const (.int .i64 1)) 3) none,
    sop (some 7) (.assign (.tmp 30)) none]
theorem xr79_8 : Xr 79 58 r79_8 o79_8 [] := execI_reg' (by kernel_rfl)
theorem cl79_1 : l79_1 = (.seq (.seq r79_7 (.cond (.tmp 28) .skip (.exit 2))) (.seq (.block 3 (.seq r79_9 (.block 4 (.loop l79_2)))) r79_8)) := by kernel_rfl
noncomputable def r79_5 : Code := navF Try.f79 [1, 1, 1, 0, 1, 0, 0, 1, 1]
noncomputable def o79_5 : List Oper := [sop (some 22) (.move (.tmp 6)) none,
    sop (some 23) (.binOp .add 3 (.tmp 22) (.const (.int .i64 1)) 3) none,
    sop (some 6) (.assign (.tmp 23)) none]
theorem xr79_5 : Xr 79 58 r79_5 o79_5 [] := execI_reg' (by kernel_rfl)
theorem cl79_0 : l79_0 = (.seq (.seq r79_4 (.cond (.tmp 21) .skip (.exit 0))) (.seq (.block 1 (.seq r79_6 (.block 2 (.loop l79_1)))) r79_5)) := by kernel_rfl
noncomputable def r79_15 : Code := navF Try.f79 [1, 1, 1, 1, 0]
noncomputable def o79_15 : List Oper := [sop (some 57) (.move (.tmp 5)) none,
    sop (some 4) (.assign (.tmp 57)) none]
theorem xr79_15 : Xr 79 58 r79_15 o79_15 [] := execI_reg' (by kernel_rfl)
noncomputable def b79 : Code := (.seq r79_0 (.seq r79_1 (.seq r79_2 (.seq (.seq r79_3 (.block 0 (.loop l79_0))) (.seq r79_15 .ret)))))
theorem body79 : Try.f79.body = some b79 := by kernel_rfl
theorem fn79 : E.fn 79 = some Try.f79 := by kernel_rfl
theorem run79 (args : List D) (h : H) (hl : args.length ≤ 58) : bodyI E 79 args h = resOf E [(.tmp 4)] (execI E 79 58 b79 ⟨argA args, h⟩) := bodyI_res fn79 body79 rfl rfl args h hl

/-! ### 98: gauntlet/gauntletref06.Paths -/
noncomputable def r98_0 : Code := navF Try.f98 [0]
noncomputable def o98_0 : List Oper := [sop (some 2) (.box 34 (.tmp 0)) none,
    sop (some 4) (.assign (.const (.slice none 0 0))) none,
    sop (some 5) (.assign (.const (.slice none 0 0))) none]
theorem xr98_0 : Xr 98 84 r98_0 o98_0 [] := execI_reg' (by kernel_rfl)
noncomputable def r98_1 : Code := navF Try.f98 [1, 0]
noncomputable def o98_1 : List Oper := [sop (some 13) (.fieldAddr 34 (.tmp 2) 2) none,
    sop (some 14) (.load 32 (.tmp 13)) none,
    sop (some 15) (.call { callee := (.builtin .len), args := #[(.tmp 14)], argTypes := #[32] }) none,
    sop (some 16) (.makeSlice 37 (.tmp 15) (.tmp 15)) none,
    sop (some 6) (.assign (.tmp 16)) none]
theorem xr98_1 : Xr 98 84 r98_1 o98_1 [] := execI_reg' (by kernel_rfl)
noncomputable def r98_2 : Code := navF Try.f98 [1, 1, 0]
noncomputable def o98_2 : List Oper := [sop (some 17) (.fieldAddr 34 (.tmp 2) 2) none,
    sop (some 18) (.load 32 (.tmp 17)) none,
    sop (some 19) (.call { callee := (.builtin .len), args := #[(.tmp 18)], argTypes := #[32] }) none,
    sop (some 20) (.makeSlice 123 (.tmp 19) (.tmp 19)) none,
    sop (some 7) (.assign (.tmp 20)) none]
theorem xr98_2 : Xr 98 84 r98_2 o98_2 [] := execI_reg' (by kernel_rfl)
noncomputable def r98_3 : Code := navF Try.f98 [1, 1, 1, 0]
noncomputable def o98_3 : List Oper := [sop (some 21) (.buildSlice 62 0 #[]) none,
    sop (some 22) (.buildSlice 37 1 #[(0, (.tmp 21))]) none,
    sop (some 8) (.assign (.tmp 22)) none]
theorem xr98_3 : Xr 98 84 r98_3 o98_3 [] := execI_reg' (by kernel_rfl)
noncomputable def l98_0 : Code := navF Try.f98 [1, 1, 1, 1, 0, 0, 0]
noncomputable def r98_4 : Code := navF Try.f98 [1, 1, 1, 1, 0, 0, 0, 0, 0]
noncomputable def o98_4 : List Oper := [sop (some 23) (.move (.tmp 8)) none,
    sop (some 24) (.call { callee := (.builtin .len), args := #[(.tmp 23)], argTypes := #[37] }) none,
    sop (some 25) (.binOp .gtr 3 (.tmp 24) (.const (.int .i64 0)) 3) none,
    sop (some 26) (.move (.tmp 25)) none,
    sop (some 27) (.fieldAddr 34 (.tmp 2) 2) (some (3, true)),
    sop (some 28) (.load 32 (.tmp 27)) (some (3, true)),
    sop (some 29) (.call { callee := (.builtin .len), args := #[(.tmp 28)], argTypes := #[32] }) (some (3, true)),
    sop (some 30) (.binOp .gtr 3 (.tmp 29) (.const (.int .i64 0)) 3) (some (3, true)),
    sop (some 31) (.pick (.tmp 26) (.tmp 30) (.const (.bool false))) none]
theorem xr98_4 : Xr 98 84 r98_4 o98_4 [] := execI_reg' (by kernel_rfl)
noncomputable def r98_5 : Code := navF Try.f98 [1, 1, 1, 1, 0, 0, 0, 1, 0, 0]
noncomputable def o98_5 : List Oper := [sop (some 9) (.assign (.const (.slice none 0 0))) none]
theorem xr98_5 : Xr 98 84 r98_5 o98_5 [] := execI_reg' (by kernel_rfl)
noncomputable def r98_6 : Code := navF Try.f98 [1, 1, 1, 1, 0, 0, 0, 1, 0, 1, 0, 0]
noncomputable def o98_6 : List Oper := [sop (some 10) (.assign (.const (.int .i64 0))) none]
theorem xr98_6 : Xr 98 84 r98_6 o98_6 [] := execI_reg' (by kernel_rfl)
noncomputable def l98_1 : Code := navF Try.f98 [1, 1, 1, 1, 0, 0, 0, 1, 0, 1, 0, 1, 0, 0]
noncomputable def r98_7 : Code := navF Try.f98 [1, 1, 1, 1, 0, 0, 0, 1, 0, 1, 0, 1, 0, 0, 0, 0]
noncomputable def o98_7 : List Oper := [sop (some 32) (.move (.tmp 10)) none,
    sop (some 33) (.move (.tmp 8)) none,
    sop (some 34) (.call { callee := (.builtin .len), args := #[(.tmp 33)], argTypes := #[37] }) none,
    sop (some 35) (.binOp .lss 3 (.tmp 32) (.tmp 34) 3) none]
theorem xr98_7 : Xr 98 84 r98_7 o98_7 [] := execI_reg' (by kernel_rfl)
noncomputable def r98_9 : Code := navF Try.f98 [1, 1, 1, 1, 0, 0, 0, 1, 0, 1, 0, 1, 0, 0, 1, 0, 0, 0]
noncomputable def o98_9 : List Oper := [sop (some 38) (.load 34 (.tmp 2)) none,
    sop (some 39) (.move (.tmp 1)) none,
    sop (some 40) (.move (.tmp 8)) none,
    sop (some 41) (.move (.tmp 10)) none,
    sop (some 42) (.indexAddr 37 (.tmp 40) (.tmp 41)) none,
    sop (some 43) (.load 62 (.tmp 42)) none,
    sop (some 44) (.call { callee := (.value (.func 121)), args := #[(.tmp 38), (.tmp 39), (.tmp 43)], argTypes := #[34, 3, 62] }) none,
    sop (some 11) (.assign (.tmp 44)) none]
theorem xr98_9 : Xr 98 84 r98_9 o98_9 [(0, 5)] := execI_reg' (by kernel_rfl)
noncomputable def r98_10 : Code := navF Try.f98 [1, 1, 1, 1, 0, 0, 0, 1, 0, 1, 0, 1, 0, 0, 1, 0, 0, 1, 0, 0]
noncomputable def o98_10 : List Oper := [sop (some 45) (.move (.tmp 11)) none,
    sop (some 46) (.binOp .lss 3 (.tmp 45) (.const (.int .i64 0)) 3) none,
    sop (some 47) (.move (.tmp 46)) none,
    sop (some 48) (.move (.tmp 7)) (some (2, false)),
    sop (some 49) (.move (.tmp 11)) (some (2, false)),
    sop (some 50) (.indexAddr 123 (.tmp 48) (.tmp 49)) (some (2, false)),
    sop (some 51) (.load 4 (.tmp 50)) (some (2, false)),
    sop (some 52) (.pick (.tmp 47) (.const (.bool true)) (.tmp 51)) none]
theorem xr98_10 : Xr 98 84 r98_10 o98_10 [] := execI_reg' (by kernel_rfl)
noncomputable def r98_11 : Code := navF Try.f98 [1, 1, 1, 1, 0, 0, 0, 1, 0, 1, 0, 1, 0, 0, 1, 0, 0, 1, 1, 0]
noncomputable def o98_11 : List Oper := [sop (some 53) (.move (.tmp 7)) none,
    sop (some 54) (.move (.tmp 11)) none,
    sop (some 55) (.indexAddr 123 (.tmp 53) (.tmp 54)) none,
    sop none (.store 4 (.tmp 55) (.const (.bool true))) none]
theorem xr98_11 : Xr 98 84 r98_11 o98_11 [] := execI_reg' (by kernel_rfl)
noncomputable def r98_12 : Code := navF Try.f98 [1, 1, 1, 1, 0, 0, 0, 1, 0, 1, 0, 1, 0, 0, 1, 0, 0, 1, 1, 1, 0]
noncomputable def o98_12 : List Oper := [sop (some 56) (.move (.tmp 6)) none,
    sop (some 57) (.move (.tmp 11)) none,
    sop (some 58) (.move (.tmp 8)) none,
    sop (some 59) (.move (.tmp 10)) none,
    sop (some 60) (.indexAddr 37 (.tmp 58) (.tmp 59)) none,
    sop (some 61) (.load 62 (.tmp 60)) none,
    sop (some 62) (.indexAddr 37 (.tmp 56) (.tmp 57)) none,
    sop none (.store 62 (.tmp 62) (.tmp 61)) none]
theorem xr98_12 : Xr 98 84 r98_12 o98_12 [] := execI_reg' (by kernel_rfl)
noncomputable def r98_13 : Code := navF Try.f98 [1, 1, 1, 1, 0, 0, 0, 1, 0, 1, 0, 1, 0, 0, 1, 0, 0, 1, 1, 1, 1, 0]
noncomputable def o98_13 : List Oper := [sop (some 12) (.assign (.const (.int .i64 0))) none]
theorem xr98_13 : Xr 98 84 r98_13 o98_13 [] := execI_reg' (by kernel_rfl)
noncomputable def l98_2 : Code := navF Try.f98 [1, 1, 1, 1, 0, 0, 0, 1, 0, 1, 0, 1, 0, 0, 1, 0, 0, 1, 1, 1, 1, 1, 0, 0]
noncomputable def r98_14 : Code := navF Try.f98 [1, 1, 1, 1, 0, 0, 0, 1, 0, 1, 0, 1, 0, 0, 1, 0, 0, 1, 1, 1, 1, 1, 0, 0, 0, 0]
noncomputable def o98_14 : List Oper := [sop (some 63) (.move (.tmp 12)) none,
    sop (some 64) (.fieldAddr 34 (.tmp 2) 0) none,
    sop (some 65) (.load 3 (.tmp 64)) none,
    sop (some 66) (.binOp .lss 3 (.tmp 63) (.tmp 65) 3) none]
theorem xr98_14 : Xr 98 84 r98_14 o98_14 [] := execI_reg' (by kernel_rfl)
noncomputable def r98_16 : Code := navF Try.f98 [1, 1, 1, 1, 0, 0, 0, 1, 0, 1, 0, 1, 0, 0, 1, 0, 0, 1, 1, 1, 1, 1, 0, 0, 1, 0, 0]
noncomputable def o98_16 : List Oper := [sop (some 69) (.move (.tmp 9)) none,
    sop (some 70) (.buildSlice 62 0 #[]) none,
    sop (some 71) (.move (.tmp 8)) none,
    sop (some 72) (.move (.tmp 10)) none,
    sop (some 73) (.indexAddr 37 (.tmp 71) (.tmp 72)) none,
    sop (some 74) (.load 62 (.tmp 73)) none,
    sop (some 75) (.call { callee := (.builtin .append), args := #[(.tmp 70), (.tmp 74)], argTypes := #[62, 62] }) none,
    sop (some 76) (.move (.tmp 12)) none,
    sop (some 77) (.buildSlice 62 1 #[(0, (.tmp 76))]) none,
    sop (some 78) (.call { callee := (.builtin .append), args := #[(.tmp 75), (.tmp 77)], argTypes := #[62, 62] }) none,
    sop (some 79) (.buildSlice 37 1 #[(0, (.tmp 78))]) none,
    sop (some 80) (.call { callee := (.builtin .append), args := #[(.tmp 69), (.tmp 79)], argTypes := #[37, 37] }) none,
    sop (some 9) (.assign (.tmp 80)) none]
theorem xr98_16 : Xr 98 84 r98_16 o98_16 [] := execI_reg' (by kernel_rfl)
noncomputable def r98_15 : Code := navF Try.f98 [1, 1, 1, 1, 0, 0, 0, 1, 0, 1, 0, 1, 0, 0, 1, 0, 0, 1, 1, 1, 1, 1, 0, 0, 1, 1]
noncomputable def o98_15 : List Oper := [sop (some 67) (.move (.tmp 12)) none,
    sop (some 68) (.binOp .add 3 (.tmp 67) (.const (.int .i64 1)) 3) none,
    sop (some 12) (.assign (.tmp 68)) none]
theorem xr98_15 : Xr 98 84 r98_15 o98_15 [] := execI_reg' (by kernel_rfl)
theorem cl98_2 : l98_2 = (.seq (.seq r98_14 (.cond (.tmp 66) .skip (.exit 4))) (.seq (.block 5 r98_16) r98_15)) := by kernel_rfl
noncomputable def r98_8 : Code := navF Try.f98 [1, 1, 1, 1, 0, 0, 0, 1, 0, 1, 0, 1, 0, 0, 1, 1]
noncomputable def o98_8 : List Oper := [sop (some 36) (.move (.tmp 10)) none,
    sop (some 37) (.binOp .add 3 (.tmp 36) (.const (.int .i64 1)) 3) none,
    sop (some 10) (.assign (.tmp 37)) none]
theorem xr98_8 : Xr 98 84 r98_8 o98_8 [] := execI_reg' (by kernel_rfl)
theorem cl98_1 : l98_1 = (.seq (.seq r98_7 (.cond (.tmp 35) .skip (.exit 2))) (.seq (.block 3 (.seq r98_9 (.seq (.seq r98_10 (.cond (.tmp 52) (.exit 3) .skip)) (.seq r98_11 (.seq r98_12 (.seq r98_13 (.block 4 (.loop l98_2)))))))) r98_8)) := by kernel_rfl
noncomputable def r98_17 : Code := navF Try.f98 [1, 1, 1, 1, 0, 0, 0, 1, 0, 1, 1]
noncomputable def o98_17 : List Oper := [sop (some 81) (.move (.tmp 9)) none,
    sop (some 8) (.assign (.tmp 81)) none]
theorem xr98_17 : Xr 98 84 r98_17 o98_17 [] := execI_reg' (by kernel_rfl)
theorem cl98_0 : l98_0 = (.seq (.seq r98_4 (.cond (.tmp 31) .skip (.exit 0))) (.block 1 (.seq r98_5 (.seq (.seq r98_6 (.block 2 (.loop l98_1))) r98_17)))) := by kernel_rfl
noncomputable def r98_18 : Code := navF Try.f98 [1, 1, 1, 1, 1, 0]
noncomputable def o98_18 : List Oper := [sop (some 82) (.move (.tmp 6)) none,
    sop (some 83) (.move (.tmp 7)) none,
    sop (some 4) (.assign (.tmp 82)) none,
    sop (some 5) (.assign (.tmp 83)) none]
theorem xr98_18 : Xr 98 84 r98_18 o98_18 [] := execI_reg' (by kernel_rfl)
noncomputable def b98 : Code := (.seq r98_0 (.seq r98_1 (.seq r98_2 (.seq r98_3 (.seq (.block 0 (.loop l98_0)) (.seq r98_18 .ret))))))
theorem body98 : Try.f98.body = some b98 := by kernel_rfl
theorem fn98 : E.fn 98 = some Try.f98 := by kernel_rfl
theorem run98 (args : List D) (h : H) (hl : args.length ≤ 84) : bodyI E 98 args h = resOf E [(.tmp 4), (.tmp 5)] (execI E 98 84 b98 ⟨argA args, h⟩) := bodyI_res fn98 body98 rfl rfl args h hl

/-! ### 71: gauntlet/gauntletref06.Access -/
noncomputable def r71_0 : Code := navF Try.f71 [0]
noncomputable def o71_0 : List Oper := [sop (some 1) (.box 34 (.tmp 0)) none,
    sop (some 2) (.assign (.const (.slice none 0 0))) none,
    sop (some 3) (.assign (.const (.slice none 0 0))) none]
theorem xr71_0 : Xr 71 8 r71_0 o71_0 [] := execI_reg' (by kernel_rfl)
noncomputable def r71_1 : Code := navF Try.f71 [1, 0]
noncomputable def o71_1 : List Oper := [sop (some 4) (.load 34 (.tmp 1)) none,
    sop (some 5) (.call { callee := (.value (.func 98)), args := #[(.tmp 4), (.const (.int .i64 0))], argTypes := #[34, 3] }) none,
    sop (some 6) (.extract (.tmp 5) 0) none,
    sop (some 7) (.extract (.tmp 5) 1) none,
    sop (some 2) (.assign (.tmp 6)) none,
    sop (some 3) (.assign (.tmp 7)) none]
theorem xr71_1 : Xr 71 8 r71_1 o71_1 [] := execI_reg' (by kernel_rfl)
noncomputable def b71 : Code := (.seq r71_0 (.seq r71_1 .ret))
theorem body71 : Try.f71.body = some b71 := by kernel_rfl
theorem fn71 : E.fn 71 = some Try.f71 := by kernel_rfl
theorem run71 (args : List D) (h : H) (hl : args.length ≤ 8) : bodyI E 71 args h = resOf E [(.tmp 2), (.tmp 3)] (execI E 71 8 b71 ⟨argA args, h⟩) := bodyI_res fn71 body71 rfl rfl args h hl

/-! ### 78: gauntlet/gauntletref06.Order -/
noncomputable def r78_0 : Code := navF Try.f78 [0]
noncomputable def o78_0 : List Oper := [sop (some 1) (.box 34 (.tmp 0)) none,
    sop (some 2) (.assign (.const (.slice none 0 0))) none]
theorem xr78_0 : Xr 78 61 r78_0 o78_0 [] := execI_reg' (by kernel_rfl)
noncomputable def r78_1 : Code := navF Try.f78 [1, 0]
noncomputable def o78_1 : List Oper := [sop (some 10) (.load 34 (.tmp 1)) none,
    sop (some 11) (.call { callee := (.value (.func 71)), args := #[(.tmp 10)], argTypes := #[34] }) none,
    sop (some 9) (.move (.tmp 11)) none,
    sop (some 12) (.extract (.tmp 9) 0) none,
    sop (some 13) (.extract (.tmp 9) 1) none,
    sop (some 3) (.assign (.tmp 12)) none,
    sop (some 4) (.assign (.tmp 13)) none]
theorem xr78_1 : Xr 78 61 r78_1 o78_1 [] := execI_reg' (by kernel_rfl)
noncomputable def r78_2 : Code := navF Try.f78 [1, 1, 0]
noncomputable def o78_2 : List Oper := [sop (some 5) (.assign (.const (.slice none 0 0))) none]
theorem xr78_2 : Xr 78 61 r78_2 o78_2 [] := execI_reg' (by kernel_rfl)
noncomputable def r78_3 : Code := navF Try.f78 [1, 1, 1, 0, 0]
noncomputable def o78_3 : List Oper := [sop (some 6) (.assign (.const (.int .i64 0))) none]
theorem xr78_3 : Xr 78 61 r78_3 o78_3 [] := execI_reg' (by kernel_rfl)
noncomputable def l78_0 : Code := navF Try.f78 [1, 1, 1, 0, 1, 0, 0]
noncomputable def r78_4 : Code := navF Try.f78 [1, 1, 1, 0, 1, 0, 0, 0, 0]
noncomputable def o78_4 : List Oper := [sop (some 14) (.move (.tmp 6)) none,
    sop (some 15) (.move (.tmp 3)) none,
    sop (some 16) (.call { callee := (.builtin .len), args := #[(.tmp 15)], argTypes := #[37] }) none,
    sop (some 17) (.binOp .lss 3 (.tmp 14) (.tmp 16) 3) none]
theorem xr78_4 : Xr 78 61 r78_4 o78_4 [] := execI_reg' (by kernel_rfl)
noncomputable def r78_6 : Code := navF Try.f78 [1, 1, 1, 0, 1, 0, 0, 1, 0, 0, 0, 0]
noncomputable def o78_6 : List Oper := [sop (some 20) (.move (.tmp 4)) none,
    sop (some 21) (.move (.tmp 6)) none,
    sop (some 22) (.indexAddr 123 (.tmp 20) (.tmp 21)) none,
    sop (some 23) (.load 4 (.tmp 22)) none,
    sop (some 24) (.unOp .not 4 (.tmp 23)) none]
theorem xr78_6 : Xr 78 61 r78_6 o78_6 [] := execI_reg' (by kernel_rfl)
noncomputable def r78_7 : Code := navF Try.f78 [1, 1, 1, 0, 1, 0, 0, 1, 0, 0, 1, 0]
noncomputable def o78_7 : List Oper := [sop (some 7) (.assign (.const (.int .i64 0))) none]
theorem xr78_7 : Xr 78 61 r78_7 o78_7 [] := execI_reg' (by kernel_rfl)
noncomputable def l78_1 : Code := navF Try.f78 [1, 1, 1, 0, 1, 0, 0, 1, 0, 0, 1, 1, 0, 0, 0]
noncomputable def r78_8 : Code := navF Try.f78 [1, 1, 1, 0, 1, 0, 0, 1, 0, 0, 1, 1, 0, 0, 0, 0, 0]
noncomputable def o78_8 : List Oper := [sop (some 25) (.move (.tmp 7)) none,
    sop (some 26) (.move (.tmp 5)) none,
    sop (some 27) (.call { callee := (.builtin .len), args := #[(.tmp 26)], argTypes := #[62] }) none,
    sop (some 28) (.binOp .lss 3 (.tmp 25) (.tmp 27) 3) none,
    sop (some 29) (.move (.tmp 28)) none,
    sop (some 30) (.move (.tmp 3)) (some (4, true)),
    sop (some 31) (.move (.tmp 5)) (some (4, true)),
    sop (some 32) (.move (.tmp 7)) (some (4, true)),
    sop (some 33) (.indexAddr 62 (.tmp 31) (.tmp 32)) (some (4, true)),
    sop (some 34) (.load 3 (.tmp 33)) (some (4, true)),
    sop (some 35) (.indexAddr 37 (.tmp 30) (.tmp 34)) (some (4, true)),
    sop (some 36) (.load 62 (.tmp 35)) (some (4, true)),
    sop (some 37) (.move (.tmp 3)) (some (4, true)),
    sop (some 38) (.move (.tmp 6)) (some (4, true)),
    sop (some 39) (.indexAddr 37 (.tmp 37) (.tmp 38)) (some (4, true)),
    sop (some 40) (.load 62 (.tmp 39)) (some (4, true)),
    sop (some 41) (.call { callee := (.value (.func 102)), args := #[(.tmp 36), (.tmp 40)], argTypes := #[62, 62] }) (some (4, true)),
    sop (some 42) (.binOp .eql 3 (.tmp 41) (.const (.int .i64 1)) 3) (some (4, true)),
    sop (some 43) (.pick (.tmp 29) (.tmp 42) (.const (.bool false))) none]
theorem xr78_8 : Xr 78 61 r78_8 o78_8 [(9, 15), (11, 15)] := execI_reg' (by kernel_rfl)
noncomputable def r78_9 : Code := navF Try.f78 [1, 1, 1, 0, 1, 0, 0, 1, 0, 0, 1, 1, 0, 0, 0, 1, 0]
noncomputable def o78_9 : List Oper := [sop (some 44) (.move (.tmp 7)) none,
    sop (some 45) (.binOp .add 3 (.tmp 44) (.const (.int .i64 1)) 3) none,
    sop (some 7) (.assign (.tmp 45)) none]
theorem xr78_9 : Xr 78 61 r78_9 o78_9 [] := execI_reg' (by kernel_rfl)
theorem cl78_1 : l78_1 = (.seq (.seq r78_8 (.cond (.tmp 43) .skip (.exit 2))) (.block 3 r78_9)) := by kernel_rfl
noncomputable def r78_10 : Code := navF Try.f78 [1, 1, 1, 0, 1, 0, 0, 1, 0, 0, 1, 1, 1, 0]
noncomputable def o78_10 : List Oper := [sop (some 8) (.assign (.const (.slice none 0 0))) none]
theorem xr78_10 : Xr 78 61 r78_10 o78_10 [] := execI_reg' (by kernel_rfl)
noncomputable def r78_11 : Code := navF Try.f78 [1, 1, 1, 0, 1, 0, 0, 1, 0, 0, 1, 1, 1, 1, 0]
noncomputable def o78_11 : List Oper := [sop (some 46) (.move (.tmp 8)) none,
    sop (some 47) (.move (.tmp 5)) none,
    sop (some 48) (.move (.tmp 7)) none,
    sop (some 49) (.slice 62 (.tmp 47) none (some (.tmp 48)) none) none,
    sop (some 50) (.call { callee := (.builtin .append), args := #[(.tmp 46), (.tmp 49)], argTypes := #[62, 62] }) none,
    sop (some 8) (.assign (.tmp 50)) none]
theorem xr78_11 : Xr 78 61 r78_11 o78_11 [] := execI_reg' (by kernel_rfl)
noncomputable def r78_12 : Code := navF Try.f78 [1, 1, 1, 0, 1, 0, 0, 1, 0, 0, 1, 1, 1, 1, 1, 0]
noncomputable def o78_12 : List Oper := [sop (some 51) (.move (.tmp 8)) none,
    sop (some 52) (.move (.tmp 6)) none,
    sop (some 53) (.buildSlice 62 1 #[(0, (.tmp 52))]) none,
    sop (some 54) (.call { callee := (.builtin .append), args := #[(.tmp 51), (.tmp 53)], argTypes := #[62, 62] }) none,
    sop (some 8) (.assign (.tmp 54)) none]
theorem xr78_12 : Xr 78 61 r78_12 o78_12 [] := execI_reg' (by kernel_rfl)
noncomputable def r78_13 : Code := navF Try.f78 [1, 1, 1, 0, 1, 0, 0, 1, 0, 0, 1, 1, 1, 1, 1, 1]
noncomputable def o78_13 : List Oper := [sop (some 55) (.move (.tmp 8)) none,
    sop (some 56) (.move (.tmp 5)) none,
    sop (some 57) (.move (.tmp 7)) none,
    sop (some 58) (.slice 62 (.tmp 56) (some (.tmp 57)) none none) none,
    sop (some 59) (.call { callee := (.builtin .append), args := #[(.tmp 55), (.tmp 58)], argTypes := #[62, 62] }) none,
    sop (some 5) (.assign (.tmp 59)) none]
theorem xr78_13 : Xr 78 61 r78_13 o78_13 [] := execI_reg' (by kernel_rfl)
noncomputable def r78_5 : Code := navF Try.f78 [1, 1, 1, 0, 1, 0, 0, 1, 1]
noncomputable def o78_5 : List Oper := [sop (some 18) (.move (.tmp 6)) none,
    sop (some 19) (.binOp .add 3 (.tmp 18) (.const (.int .i64 1)) 3) none,
    sop (some 6) (.assign (.tmp 19)) none]
theorem xr78_5 : Xr 78 61 r78_5 o78_5 [] := execI_reg' (by kernel_rfl)
theorem cl78_0 : l78_0 = (.seq (.seq r78_4 (.cond (.tmp 17) .skip (.exit 0))) (.seq (.block 1 (.seq (.seq r78_6 (.cond (.tmp 24) (.exit 1) .skip)) (.seq r78_7 (.seq (.block 2 (.loop l78_1)) (.seq r78_10 (.seq r78_11 (.seq r78_12 r78_13))))))) r78_5)) := by kernel_rfl
noncomputable def r78_14 : Code := navF Try.f78 [1, 1, 1, 1, 0]
noncomputable def o78_14 : List Oper := [sop (some 60) (.move (.tmp 5)) none,
    sop (some 2) (.assign (.tmp 60)) none]
theorem xr78_14 : Xr 78 61 r78_14 o78_14 [] := execI_reg' (by kernel_rfl)
noncomputable def b78 : Code := (.seq r78_0 (.seq r78_1 (.seq r78_2 (.seq (.seq r78_3 (.block 0 (.loop l78_0))) (.seq r78_14 .ret)))))
theorem body78 : Try.f78.body = some b78 := by kernel_rfl
theorem fn78 : E.fn 78 = some Try.f78 := by kernel_rfl
theorem run78 (args : List D) (h : H) (hl : args.length ≤ 61) : bodyI E 78 args h = resOf E [(.tmp 2)] (execI E 78 61 b78 ⟨argA args, h⟩) := bodyI_res fn78 body78 rfl rfl args h hl
end Go.Eng.E3

namespace Go.Eng.E3
open Go Go.Eng Go.Proofs
set_option maxRecDepth 100000

/-! ### 54: gauntlet/gauntletref04.Next -/
noncomputable def r54_0 : Code := navF Try.f54 [0]
noncomputable def o54_0 : List Oper := [sop (some 3) (.box 34 (.tmp 0)) none,
    sop (some 6) (.alloc 55) none]
theorem xr54_0 : Xr 54 18 r54_0 o54_0 [] := execI_reg' (by kernel_rfl)
noncomputable def r54_1 : Code := navF Try.f54 [1, 0, 0]
noncomputable def o54_1 : List Oper := [sop (some 7) (.move (.tmp 1)) none,
    sop (some 8) (.binOp .lss 3 (.tmp 7) (.const (.int .i64 0)) 3) none]
theorem xr54_1 : Xr 54 18 r54_1 o54_1 [] := execI_reg' (by kernel_rfl)
noncomputable def r54_2 : Code := navF Try.f54 [1, 0, 1, 0, 0]
noncomputable def o54_2 : List Oper := [sop (some 9) (.build 55 #[(0, (.const (.int .i64 (-1)))), (1, (.const (.int .i64 (-1))))]) none,
    sop none (.store 55 (.tmp 6) (.tmp 9)) none]
theorem xr54_2 : Xr 54 18 r54_2 o54_2 [] := execI_reg' (by kernel_rfl)
noncomputable def r54_3 : Code := navF Try.f54 [1, 1, 0]
noncomputable def o54_3 : List Oper := [sop (some 10) (.fieldAddr 34 (.tmp 3) 2) none,
    sop (some 11) (.load 32 (.tmp 10)) none,
    sop (some 12) (.move (.tmp 1)) none,
    sop (some 13) (.indexAddr 32 (.tmp 11) (.tmp 12)) none,
    sop (some 14) (.load 72 (.tmp 13)) none,
    sop (some 15) (.move (.tmp 2)) none,
    sop (some 16) (.indexAddr 72 (.tmp 14) (.tmp 15)) none,
    sop (some 17) (.load 55 (.tmp 16)) none,
    sop none (.store 55 (.tmp 6) (.tmp 17)) none]
theorem xr54_3 : Xr 54 18 r54_3 o54_3 [] := execI_reg' (by kernel_rfl)
noncomputable def b54 : Code := (.seq r54_0 (.seq (.seq r54_1 (.cond (.tmp 8) (.seq r54_2 .ret) .skip)) (.seq r54_3 .ret)))
theorem body54 : Try.f54.body = some b54 := by kernel_rfl
theorem fn54 : E.fn 54 = some Try.f54 := by kernel_rfl
theorem run54 (args : List D) (h : H) (hl : args.length ≤ 18) : bodyI E 54 args h = resOf E [(.cell 6 55)] (execI E 54 18 b54 ⟨argA args, h⟩) := bodyI_res fn54 body54 rfl rfl args h hl

/-! ### 22: gauntlet/gauntletref04.Run -/
noncomputable def r22_0 : Code := navF Try.f22 [0]
noncomputable def o22_0 : List Oper := [sop (some 3) (.box 34 (.tmp 0)) none,
    sop (some 6) (.assign (.const (.slice none 0 0))) none]
theorem xr22_0 : Xr 22 31 r22_0 o22_0 [] := execI_reg' (by kernel_rfl)
noncomputable def r22_1 : Code := navF Try.f22 [1, 0]
noncomputable def o22_1 : List Oper := [sop (some 7) (.assign (.const (.slice none 0 0))) none]
theorem xr22_1 : Xr 22 31 r22_1 o22_1 [] := execI_reg' (by kernel_rfl)
noncomputable def r22_2 : Code := navF Try.f22 [1, 1, 0, 0]
noncomputable def o22_2 : List Oper := [sop (some 8) (.assign (.const (.int .i64 0))) none]
theorem xr22_2 : Xr 22 31 r22_2 o22_2 [] := execI_reg' (by kernel_rfl)
noncomputable def l22_0 : Code := navF Try.f22 [1, 1, 0, 1, 0, 0]
noncomputable def r22_3 : Code := navF Try.f22 [1, 1, 0, 1, 0, 0, 0, 0]
noncomputable def o22_3 : List Oper := [sop (some 10) (.move (.tmp 8)) none,
    sop (some 11) (.move (.tmp 2)) none,
    sop (some 12) (.call { callee := (.builtin .len), args := #[(.tmp 11)], argTypes := #[62] }) none,
    sop (some 13) (.binOp .lss 3 (.tmp 10) (.tmp 12) 3) none]
theorem xr22_3 : Xr 22 31 r22_3 o22_3 [] := execI_reg' (by kernel_rfl)
noncomputable def r22_5 : Code := navF Try.f22 [1, 1, 0, 1, 0, 0, 1, 0, 0, 0]
noncomputable def o22_5 : List Oper := [sop (some 16) (.load 34 (.tmp 3)) none,
    sop (some 17) (.move (.tmp 1)) none,
    sop (some 18) (.move (.tmp 2)) none,
    sop (some 19) (.move (.tmp 8)) none,
    sop (some 20) (.indexAddr 62 (.tmp 18) (.tmp 19)) none,
    sop (some 21) (.load 3 (.tmp 20)) none,
    sop (some 22) (.call { callee := (.value (.func 54)), args := #[(.tmp 16), (.tmp 17), (.tmp 21)], argTypes := #[34, 3, 3] }) none,
    sop (some 9) (.alloc 55) none,
    sop none (.store 55 (.tmp 9) (.tmp 22)) none]
theorem xr22_5 : Xr 22 31 r22_5 o22_5 [(0, 5), (0, 7), (5, 7), (6, 7)] := execI_reg' (by kernel_rfl)
noncomputable def r22_6 : Code := navF Try.f22 [1, 1, 0, 1, 0, 0, 1, 0, 0, 1, 0]
noncomputable def o22_6 : List Oper := [sop (some 23) (.move (.tmp 7)) none,
    sop (some 24) (.fieldAddr 55 (.tmp 9) 1) none,
    sop (some 25) (.load 3 (.tmp 24)) none,
    sop (some 26) (.buildSlice 62 1 #[(0, (.tmp 25))]) none,
    sop (some 27) (.call { callee := (.builtin .append), args := #[(.tmp 23), (.tmp 26)], argTypes := #[62, 62] }) none,
    sop (some 7) (.assign (.tmp 27)) none]
theorem xr22_6 : Xr 22 31 r22_6 o22_6 [] := execI_reg' (by kernel_rfl)
noncomputable def r22_7 : Code := navF Try.f22 [1, 1, 0, 1, 0, 0, 1, 0, 0, 1, 1]
noncomputable def o22_7 : List Oper := [sop (some 28) (.fieldAddr 55 (.tmp 9) 0) none,
    sop (some 29) (.load 3 (.tmp 28)) none,
    sop (some 1) (.assign (.tmp 29)) none]
theorem xr22_7 : Xr 22 31 r22_7 o22_7 [] := execI_reg' (by kernel_rfl)
noncomputable def r22_4 : Code := navF Try.f22 [1, 1, 0, 1, 0, 0, 1, 1]
noncomputable def o22_4 : List Oper := [sop (some 14) (.move (.tmp 8)) none,
    sop (some 15) (.binOp .add 3 (.tmp 14) (.const (.int .i64 1)) 3) none,
    sop (some 8) (.assign (.tmp 15)) none]
theorem xr22_4 : Xr 22 31 r22_4 o22_4 [] := execI_reg' (by kernel_rfl)
theorem cl22_0 : l22_0 = (.seq (.seq r22_3 (.cond (.tmp 13) .skip (.exit 0))) (.seq (.block 1 (.seq r22_5 (.seq r22_6 r22_7))) r22_4)) := by kernel_rfl
noncomputable def r22_8 : Code := navF Try.f22 [1, 1, 1, 0]
noncomputable def o22_8 : List Oper := [sop (some 30) (.move (.tmp 7)) none,
    sop (some 6) (.assign (.tmp 30)) none]
theorem xr22_8 : Xr 22 31 r22_8 o22_8 [] := execI_reg' (by kernel_rfl)
noncomputable def b22 : Code := (.seq r22_0 (.seq r22_1 (.seq (.seq r22_2 (.block 0 (.loop l22_0))) (.seq r22_8 .ret))))
theorem body22 : Try.f22.body = some b22 := by kernel_rfl
theorem fn22 : E.fn 22 = some Try.f22 := by kernel_rfl
theorem run22 (args : List D) (h : H) (hl : args.length ≤ 31) : bodyI E 22 args h = resOf E [(.tmp 6)] (execI E 22 31 b22 ⟨argA args, h⟩) := bodyI_res fn22 body22 rfl rfl args h hl

/-! ### 53: gauntlet/gauntletref01.Compare -/
noncomputable def r53_0 : Code := navF Try.f53 [0]
noncomputable def o53_0 : List Oper := [sop (some 4) (.assign (.const (.int .i64 0))) none]
theorem xr53_0 : Xr 53 40 r53_0 o53_0 [] := execI_reg' (by kernel_rfl)
noncomputable def r53_1 : Code := navF Try.f53 [1, 0, 0]
noncomputable def o53_1 : List Oper := [sop (some 6) (.move (.tmp 0)) none,
    sop (some 7) (.call { callee := (.builtin .len), args := #[(.tmp 6)], argTypes := #[62] }) none,
    sop (some 8) (.move (.tmp 1)) none,
    sop (some 9) (.call { callee := (.builtin .len), args := #[(.tmp 8)], argTypes := #[62] }) none,
    sop (some 10) (.binOp .lss 3 (.tmp 7) (.tmp 9) 3) none]
theorem xr53_1 : Xr 53 40 r53_1 o53_1 [] := execI_reg' (by kernel_rfl)
noncomputable def r53_2 : Code := navF Try.f53 [1, 0, 1, 0, 0]
noncomputable def o53_2 : List Oper := [sop (some 4) (.assign (.const (.int .i64 (-1)))) none]
theorem xr53_2 : Xr 53 40 r53_2 o53_2 [] := execI_reg' (by kernel_rfl)
noncomputable def r53_3 : Code := navF Try.f53 [1, 1, 0, 0]
noncomputable def o53_3 : List Oper := [sop (some 11) (.move (.tmp 0)) none,
    sop (some 12) (.call { callee := (.builtin .len), args := #[(.tmp 11)], argTypes := #[62] }) none,
    sop (some 13) (.move (.tmp 1)) none,
    sop (some 14) (.call { callee := (.builtin .len), args := #[(.tmp 13)], argTypes := #[62] }) none,
    sop (some 15) (.binOp .gtr 3 (.tmp 12) (.tmp 14) 3) none]
theorem xr53_3 : Xr 53 40 r53_3 o53_3 [] := execI_reg' (by kernel_rfl)
noncomputable def r53_4 : Code := navF Try.f53 [1, 1, 0, 1, 0, 0]
noncomputable def o53_4 : List Oper := [sop (some 4) (.assign (.const (.int .i64 1))) none]
theorem xr53_4 : Xr 53 40 r53_4 o53_4 [] := execI_reg' (by kernel_rfl)
noncomputable def r53_5 : Code := navF Try.f53 [1, 1, 1, 0, 0]
noncomputable def o53_5 : List Oper := [sop (some 5) (.assign (.const (.int .i64 0))) none]
theorem xr53_5 : Xr 53 40 r53_5 o53_5 [] := execI_reg' (by kernel_rfl)
noncomputable def l53_0 : Code := navF Try.f53 [1, 1, 1, 0, 1, 0, 0]
noncomputable def r53_6 : Code := navF Try.f53 [1, 1, 1, 0, 1, 0, 0, 0, 0]
noncomputable def o53_6 : List Oper := [sop (some 16) (.move (.tmp 5)) none,
    sop (some 17) (.move (.tmp 0)) none,
    sop (some 18) (.call { callee := (.builtin .len), args := #[(.tmp 17)], argTypes := #[62] }) none,
    sop (some 19) (.binOp .lss 3 (.tmp 16) (.tmp 18) 3) none]
theorem xr53_6 : Xr 53 40 r53_6 o53_6 [] := execI_reg' (by kernel_rfl)
noncomputable def r53_8 : Code := navF Try.f53 [1, 1, 1, 0, 1, 0, 0, 1, 0, 0, 0, 0]
noncomputable def o53_8 : List Oper := [sop (some 22) (.move (.tmp 0)) none,
    sop (some 23) (.move (.tmp 5)) none,
    sop (some 24) (.indexAddr 62 (.tmp 22) (.tmp 23)) none,
    sop (some 25) (.load 3 (.tmp 24)) none,
    sop (some 26) (.move (.tmp 1)) none,
    sop (some 27) (.move (.tmp 5)) none,
    sop (some 28) (.indexAddr 62 (.tmp 26) (.tmp 27)) none,
    sop (some 29) (.load 3 (.tmp 28)) none,
    sop (some 30) (.binOp .lss 3 (.tmp 25) (.tmp 29) 3) none]
theorem xr53_8 : Xr 53 40 r53_8 o53_8 [(3, 7)] := execI_reg' (by kernel_rfl)
noncomputable def r53_9 : Code := navF Try.f53 [1, 1, 1, 0, 1, 0, 0, 1, 0, 0, 0, 1, 0, 0]
noncomputable def o53_9 : List Oper := [sop (some 4) (.assign (.const (.int .i64 (-1)))) none]
theorem xr53_9 : Xr 53 40 r53_9 o53_9 [] := execI_reg' (by kernel_rfl)
noncomputable def r53_10 : Code := navF Try.f53 [1, 1, 1, 0, 1, 0, 0, 1, 0, 0, 1, 0]
noncomputable def o53_10 : List Oper := [sop (some 31) (.move (.tmp 0)) none,
    sop (some 32) (.move (.tmp 5)) none,
    sop (some 33) (.indexAddr 62 (.tmp 31) (.tmp 32)) none,
    sop (some 34) (.load 3 (.tmp 33)) none,
    sop (some 35) (.move (.tmp 1)) none,
    sop (some 36) (.move (.tmp 5)) none,
    sop (some 37) (.indexAddr 62 (.tmp 35) (.tmp 36)) none,
    sop (some 38) (.load 3 (.tmp 37)) none,
    sop (some 39) (.binOp .gtr 3 (.tmp 34) (.tmp 38) 3) none]
theorem xr53_10 : Xr 53 40 r53_10 o53_10 [(3, 7)] := execI_reg' (by kernel_rfl)
noncomputable def r53_11 : Code := navF Try.f53 [1, 1, 1, 0, 1, 0, 0, 1, 0, 0, 1, 1, 0, 0]
noncomputable def o53_11 : List Oper := [sop (some 4) (.assign (.const (.int .i64 1))) none]
theorem xr53_11 : Xr 53 40 r53_11 o53_11 [] := execI_reg' (by kernel_rfl)
noncomputable def r53_7 : Code := navF Try.f53 [1, 1, 1, 0, 1, 0, 0, 1, 1]
noncomputable def o53_7 : List Oper := [sop (some 20) (.move (.tmp 5)) none,
    sop (some 21) (.binOp .add 3 (.tmp 20) (.const (.int .i64 1)) 3) none,
    sop (some 5) (.assign (.tmp 21)) none]
theorem xr53_7 : Xr 53 40 r53_7 o53_7 [] := execI_reg' (by kernel_rfl)
theorem cl53_0 : l53_0 = (.seq (.seq r53_6 (.cond (.tmp 19) .skip (.exit 0))) (.seq (.block 1 (.seq (.seq r53_8 (.cond (.tmp 30) (.seq r53_9 .ret) .skip)) (.seq r53_10 (.cond (.tmp 39) (.seq r53_11 .ret) .skip)))) r53_7)) := by kernel_rfl
noncomputable def r53_12 : Code := navF Try.f53 [1, 1, 1, 1, 0]
noncomputable def o53_12 : List Oper := [sop (some 4) (.assign (.const (.int .i64 0))) none]
theorem xr53_12 : Xr 53 40 r53_12 o53_12 [] := execI_reg' (by kernel_rfl)
noncomputable def b53 : Code := (.seq r53_0 (.seq (.seq r53_1 (.cond (.tmp 10) (.seq r53_2 .ret) .skip)) (.seq (.seq r53_3 (.cond (.tmp 15) (.seq r53_4 .ret) .skip)) (.seq (.seq r53_5 (.block 0 (.loop l53_0))) (.seq r53_12 .ret)))))
theorem body53 : Try.f53.body = some b53 := by kernel_rfl
theorem fn53 : E.fn 53 = some Try.f53 := by kernel_rfl
theorem run53 (args : List D) (h : H) (hl : args.length ≤ 40) : bodyI E 53 args h = resOf E [(.tmp 4)] (execI E 53 40 b53 ⟨argA args, h⟩) := bodyI_res fn53 body53 rfl rfl args h hl

/-! ### 21: gauntlet/gauntletref01.Same -/
noncomputable def r21_0 : Code := navF Try.f21 [0]
noncomputable def o21_0 : List Oper := [sop (some 4) (.assign (.const (.bool false))) none]
theorem xr21_0 : Xr 21 9 r21_0 o21_0 [] := execI_reg' (by kernel_rfl)
noncomputable def r21_1 : Code := navF Try.f21 [1, 0]
noncomputable def o21_1 : List Oper := [sop (some 5) (.move (.tmp 0)) none,
    sop (some 6) (.move (.tmp 1)) none,
    sop (some 7) (.call { callee := (.value (.func 53)), args := #[(.tmp 5), (.tmp 6)], argTypes := #[62, 62] }) none,
    sop (some 8) (.binOp .eql 3 (.tmp 7) (.const (.int .i64 0)) 3) none,
    sop (some 4) (.assign (.tmp 8)) none]
theorem xr21_1 : Xr 21 9 r21_1 o21_1 [] := execI_reg' (by kernel_rfl)
noncomputable def b21 : Code := (.seq r21_0 (.seq r21_1 .ret))
theorem body21 : Try.f21.body = some b21 := by kernel_rfl
theorem fn21 : E.fn 21 = some Try.f21 := by kernel_rfl
theorem run21 (args : List D) (h : H) (hl : args.length ≤ 9) : bodyI E 21 args h = resOf E [(.tmp 4)] (execI E 21 9 b21 ⟨argA args, h⟩) := bodyI_res fn21 body21 rfl rfl args h hl
end Go.Eng.E3

/- The seat's functions: what the specifications share. -/
namespace Go.Eng.E3
open Go Go.Eng Go.Proofs
set_option maxRecDepth 100000

abbrev iD (n : Int) : D := .int .i64 n
def pD (p : Int × Int) : D := .agg [.int .i64 p.1, .int .i64 p.2]

theorem wrap_id {x : Int} (h1 : -9223372036854775808 ≤ x) (h2 : x < 9223372036854775808) : IntKind.i64.wrap x = x := by
  have e1 : ((2 : Int) ^ 64) = 18446744073709551616 := by decide
  have e2 : ((2 : Int) ^ (64 - 1)) = 9223372036854775808 := by decide
  simp only [IntKind.wrap, IntKind.bits, IntKind.signed, e1, e2, Bool.true_and]
  split
  · rename_i h; have := of_decide_eq_true h; omega
  · rename_i h; have := of_decide_eq_false (Bool.eq_false_iff.2 h); omega

theorem eqD3 (n : Nat) (a b : Int) : eqD E.T (n + 1) 3 (.int .i64 a) (.int .i64 b) = some (a == b) := by
  unfold eqD
  rw [if_pos ok_3, desc_3]
  rfl

theorem allD2 {α : Type} {a b : α} {f : α → Option Bool} {x y : Bool} (ha : f a = some x) (hb : f b = some y) : allD f [a, b] = some (x && y) := by
  simp only [allD, ha, hb]
  cases x <;> cases y <;> rfl

theorem part3a (a b : Int) : partD E.T 3 [.int .i64 a, .int .i64 b] 0 = some (.int .i64 a) := by
  unfold partD; rw [if_pos ok_3, agg_3]; rfl
theorem part3b (a b : Int) : partD E.T 3 [.int .i64 a, .int .i64 b] 1 = some (.int .i64 b) := by
  unfold partD; rw [if_pos ok_3, agg_3]; rfl

theorem and_dec (a b c d : Int) : ((a == c) && (b == d)) = decide (a = c ∧ b = d) := by
  by_cases h1 : a = c <;> by_cases h2 : b = d <;> simp [h1, h2]

theorem eqD105 (a b c d : Int) : eqD E.T eqDepth 105 (.agg [.int .i64 a, .int .i64 b]) (.agg [.int .i64 c, .int .i64 d]) = some (decide (a = c ∧ b = d)) := by
  rw [← and_dec]
  show eqD E.T (7 + 1) _ _ _ = _
  unfold eqD
  rw [if_pos ok_105, desc_105]
  show (if E.T.ok 3 = true then _ else _) = _
  rw [if_pos ok_3]
  refine allD2 (a := 0) (b := 1) ?_ ?_
  · rw [size_3, show (0 * 1 : Nat) = 0 from rfl, part3a, part3a]; exact eqD3 6 a c
  · rw [size_3, show (1 * 1 : Nat) = 1 from rfl, part3b, part3b]; exact eqD3 6 b d

theorem eqD55 (a b c d : Int) : eqD E.T eqDepth 55 (.agg [.int .i64 a, .int .i64 b]) (.agg [.int .i64 c, .int .i64 d]) = some (decide (a = c ∧ b = d)) := by
  rw [← and_dec]
  show eqD E.T (7 + 1) _ _ _ = _
  unfold eqD
  rw [if_pos ok_55, desc_55]
  refine allD2 (a := _) (b := _) ?_ ?_
  · rw [if_neg (by decide)]
    dsimp only
    rw [part3a, part3a]; exact eqD3 6 a c
  · rw [if_neg (by decide)]
    dsimp only
    rw [part3b, part3b]; exact eqD3 6 b d

@[simp] theorem bin105 (a b c d : Int) : binD E.T .eql 105 (.agg [.int .i64 a, .int .i64 b]) (.agg [.int .i64 c, .int .i64 d]) = some (.bool (decide (a = c ∧ b = d))) := by
  simp only [binD, eqD105, Option.map_some]
@[simp] theorem bin55 (a b c d : Int) : binD E.T .eql 55 (.agg [.int .i64 a, .int .i64 b]) (.agg [.int .i64 c, .int .i64 d]) = some (.bool (decide (a = c ∧ b = d))) := by
  simp only [binD, eqD55, Option.map_some]

@[simp] theorem binInt (op : BinOp) (t : TypeId) (k : IntKind) (a b : Int) : binD E.T op t (.int k a) (.int k b) = if isShift op then shiftD op k a b else arith op k a b := by
  simp only [binD, if_true]

/-- The answer of a function, as a caller that gets nothing of the heap sees it. -/
noncomputable def bodyR (g : FuncId) (xs : List D) : Option D := match bodyI E g xs H.empty with
  | some (r, h) => (snap true h.blk snapDepth r).map (·.1)
  | none => none

theorem modelOk_of {g : FuncId} {m : List D → Option D} (h : ∀ xs r, m xs = some r → bodyR g xs = some r) : ModelOk E g m := fun xs r hm => by
  have := h xs r hm
  unfold bodyR at this
  split at this
  · rename_i r0 h1 hb
    obtain ⟨p, hp, rfl⟩ := Option.map_eq_some_iff.1 this
    exact ⟨r0, h1, p.2, hb, hp⟩
  · cases this

/-- A call of a function that is pure, with arguments that have nothing of the heap. -/
theorem call_pure {g : FuncId} {args xs : List D} {h : H} {r : D} (hp : E.pol.pure g = true) (hs : mapK (snap (E.pol.args g) h.blk snapDepth) args = some (xs, [])) (hb : bodyR g xs = some r) :
    callI E (.fn g []) args h = some (r, h, {}) := by
  rw [callI_fn, if_pos hp, List.append_nil]
  unfold pureCall
  rw [hs]
  unfold bodyR at hb
  simp only
  split at hb
  · rename_i r0 h1 hb1
    obtain ⟨p, hq, rfl⟩ := Option.map_eq_some_iff.1 hb
    rw [hb1]
    simp only
    rw [show snap (E.pol.keep g) h1.blk snapDepth r0 = some (p.1, p.2) from hq]
    rfl
  · cases hb

theorem bodyR_V {g : FuncId} {N : Nat} {rs : List ResultVar} {c : Code} {args : List D} {r : D} (hb : bodyI E g args H.empty = resOf E rs (execI E g N c ⟨argA args, H.empty⟩))
    (hv : V E g N c ⟨argA args, H.empty⟩ ⟨fun s => ∃ v, resultsD E rs s = some v ∧ (snap true s.h.blk snapDepth v).map (·.1) = some r, fun s => ∃ v, resultsD E rs s = some v ∧ (snap true s.h.blk snapDepth v).map (·.1) = some r, fun _ _ => False, fun _ _ => False⟩) :
    bodyR g args = some r := by
  obtain ⟨v, h', h1, h2⟩ := body_V (P := fun v h => (snap true h.blk snapDepth v).map (·.1) = some r) hb hv
  unfold bodyR
  rw [h1]
  exact h2
end Go.Eng.E3

namespace Go.Eng.E3
open Go Go.Eng Go.Proofs
set_option maxRecDepth 100000
attribute [local simp] execR runOps stepOp wantedD evalOp opd upd St.put Eff.apply upds looseOk FP.free FP.idle apart Eff.fp ofVal loadD storeD partD setPart indexAddrD isShift arith unD callOp mapO D.okc pickD buildable buildD placeD convD
set_option linter.unusedSimpArgs false

/-- A machine: its edges are pairs of the next state and the output. -/
structure M where
  ins : Nat
  outs : Nat
  rows : List (List (Int × Int))

def rowD (r : List (Int × Int)) : D := .frz (r.map pD) .unk
def encM (m : M) : D := .agg [.int .i64 m.ins, .int .i64 m.outs, .frz (m.rows.map rowD) .unk]

def EdgeOk (m : M) (e : Int × Int) : Prop := e = (-1, -1) ∨ (0 ≤ e.1 ∧ e.1 < m.rows.length ∧ 0 ≤ e.2 ∧ e.2 < m.outs)

structure Valid (m : M) : Prop where
  i1 : 1 ≤ m.ins
  i2 : m.ins ≤ 16
  o1 : 1 ≤ m.outs
  o2 : m.outs ≤ 16
  r1 : 1 ≤ m.rows.length
  r2 : m.rows.length ≤ 64
  len : ∀ r ∈ m.rows, r.length = m.ins
  ok : ∀ r ∈ m.rows, ∀ e ∈ r, EdgeOk m e

theorem mapK_map {α : Type} {f : D → Option (D × List Nat)} {g : α → D} : ∀ l : List α, (∀ x ∈ l, f (g x) = some (g x, [])) → mapK f (l.map g) = some (l.map g, [])
  | [], _ => rfl
  | x :: l, h => by
    rw [List.map_cons, mapK, h x (List.mem_cons_self ..)]
    simp only
    rw [mapK_map l fun y hy => h y (List.mem_cons_of_mem _ hy)]
    rfl

section
variable (kp : Bool) (blk : Nat → Blk) (n : Nat)
theorem snap_int (k : IntKind) (x : Int) : snap kp blk (n + 1) (.int k x) = some (.int k x, []) := rfl
theorem snap_bool (x : Bool) : snap kp blk (n + 1) (.bool x) = some (.bool x, []) := rfl
theorem snap_pD (p : Int × Int) : snap kp blk (n + 2) (pD p) = some (pD p, []) := rfl
theorem snap_pairs (l : List (Int × Int)) (tk : Tok) : snap kp blk (n + 3) (.frz (l.map pD) tk) = some (.frz (l.map pD) (tk.fade kp), []) := by
  show (match mapK (snap false blk (n + 2)) (l.map pD) with | some (ys, k) => some (D.frz ys (tk.fade kp), k) | none => none) = _
  rw [mapK_map l fun x _ => snap_pD false blk n x]
theorem snap_ints (l : List Int) (tk : Tok) : snap kp blk (n + 2) (.frz (l.map (D.int .i64)) tk) = some (.frz (l.map (D.int .i64)) (tk.fade kp), []) := by
  show (match mapK (snap false blk (n + 1)) (l.map (D.int .i64)) with | some (ys, k) => some (D.frz ys (tk.fade kp), k) | none => none) = _
  rw [mapK_map l fun x _ => snap_int false blk n .i64 x]
theorem snap_rowD (r : List (Int × Int)) : snap kp blk (n + 3) (rowD r) = some (rowD r, []) := snap_pairs kp blk n r .unk
theorem snap_rows (l : List (List (Int × Int))) : snap kp blk (n + 4) (.frz (l.map rowD) .unk) = some (.frz (l.map rowD) .unk, []) := by
  show (match mapK (snap false blk (n + 3)) (l.map rowD) with | some (ys, k) => some (D.frz ys (Tok.fade kp .unk), k) | none => none) = _
  rw [mapK_map l fun x _ => snap_rowD false blk n x]
  rfl
theorem snap_encM (m : M) : snap kp blk (n + 5) (encM m) = some (encM m, []) := by
  show (match mapK (snap kp blk (n + 4)) [.int .i64 m.ins, .int .i64 m.outs, .frz (m.rows.map rowD) .unk] with | some (ys, k) => some (D.agg ys, k) | none => none) = _
  simp only [mapK, snap_rows]
  rfl
end

/-! ### What a call gives, of functions that are pure -/

theorem call_cap {g : FuncId} {args cap xs : List D} {h : H} {r : D} {ks : List Nat} (hp : E.pol.pure g = true) (hs : mapK (snap (E.pol.args g) h.blk snapDepth) (args ++ cap) = some (xs, ks)) (hb : bodyR g xs = some r) (hf : ks.isEmpty = false → r.flat snapDepth = true) :
    callI E (.fn g cap) args h = some (r, h, if ks.isEmpty then {} else { rd := ks }) := by
  rw [callI_fn, if_pos hp]
  unfold pureCall
  rw [hs]
  unfold bodyR at hb
  simp only
  split at hb
  · rename_i r0 h1 hb1
    obtain ⟨p, hq, rfl⟩ := Option.map_eq_some_iff.1 hb
    rw [hb1]
    simp only
    rw [show snap (E.pol.keep g) h1.blk snapDepth r0 = some (p.1, p.2) from hq]
    simp only
    cases hk : ks.isEmpty with
    | true => rfl
    | false =>
      rw [if_neg (by simp), if_pos (hf hk)]
      rfl
  · cases hb

theorem snap_iref (kp : Bool) (blk : Nat → Blk) (n : Nat) {v : D} (hv : snap false blk n v = some (v, [])) : snap kp blk (n + 1) (.iref v) = some (.iref v, []) := by
  show (match snap false blk n v with | some (y, k) => some (D.iref y, k) | none => none) = _
  rw [hv]

theorem snap_ptr (kp : Bool) (blk : Nat → Blk) (n : Nat) {b e : Nat} {v : D} (hb : blk b = .live e [v]) (hv : snap false blk n v = some (v, [])) : snap kp blk (n + 1) (.ptr b 0 0) = some (.iref v, [b]) := by
  show (match (blk b).row with | some (_, [x]) => (match snap false blk n x with | some (y, k) => some (D.iref y, b :: k) | none => none) | _ => none) = _
  rw [hb]
  simp only [row_live]
  rw [hv]

theorem snap_fn1 (kp : Bool) (blk : Nat → Blk) (n : Nat) {f : FuncId} {c c' : D} {k : List Nat} (hc : snap kp blk n c = some (c', k)) : snap kp blk (n + 1) (.fn f [c]) = some (.fn f [c'], k) := by
  show (match mapK (snap kp blk n) [c] with | some (ys, k) => some (D.fn f ys, k) | none => none) = _
  simp only [mapK, hc, List.append_nil]

theorem snaps1 {ka : Bool} {blk : Nat → Blk} {a : D} (h : snap ka blk snapDepth a = some (a, [])) : mapK (snap ka blk snapDepth) [a] = some ([a], []) := by
  simp only [mapK, h]; rfl
theorem snaps2 {ka : Bool} {blk : Nat → Blk} {a b : D} (h : snap ka blk snapDepth a = some (a, [])) (h' : snap ka blk snapDepth b = some (b, [])) : mapK (snap ka blk snapDepth) [a, b] = some ([a, b], []) := by
  simp only [mapK, h, h']; rfl
theorem snaps3 {ka : Bool} {blk : Nat → Blk} {a b c : D} (h : snap ka blk snapDepth a = some (a, [])) (h' : snap ka blk snapDepth b = some (b, [])) (h'' : snap ka blk snapDepth c = some (c, [])) : mapK (snap ka blk snapDepth) [a, b, c] = some ([a, b, c], []) := by
  simp only [mapK, h, h', h'']; rfl
theorem snaps4 {ka : Bool} {blk : Nat → Blk} {a b c d : D} (h : snap ka blk snapDepth a = some (a, [])) (h' : snap ka blk snapDepth b = some (b, [])) (h'' : snap ka blk snapDepth c = some (c, [])) (h3 : snap ka blk snapDepth d = some (d, [])) : mapK (snap ka blk snapDepth) [a, b, c, d] = some ([a, b, c, d], []) := by
  simp only [mapK, h, h', h'', h3]; rfl
end Go.Eng.E3

namespace Go.Eng.E3
open Go Go.Eng Go.Proofs
set_option maxRecDepth 100000
attribute [local simp] execR runOps stepOp wantedD evalOp opd upd St.put Eff.apply upds looseOk FP.free FP.idle apart Eff.fp ofVal loadD storeD partD setPart indexAddrD isShift arith unD callOp mapO D.okc pickD buildable buildD placeD convD
set_option linter.unusedSimpArgs false

/-- The room of a list that append has built, when it is handed on. -/
def tkA' {α : Type} (l : List α) : Tok := if l.isEmpty then .nil else .unk

def natD (i : Nat) : D := .int .i64 i

/-! ### Lists that grow by append -/

def TokB (blk : Nat → Blk) (tk : Tok) (e nx : Nat) : Prop := tk = .nil ∨ ∃ o, tk = .own o e ∧ blk o = .tok ∧ o < nx

def tokWr (tk : Tok) (s : Nat) : List (Nat × Blk) := match tk with
  | .own o _ => [(o, .dead), (s, .tok)]
  | _ => [(s, .tok)]
def tokRd (tk : Tok) : List Nat := match tk with
  | .own o _ => [o]
  | _ => []

theorem TokB.mono {blk blk' : Nat → Blk} {tk : Tok} {e nx nx' : Nat} (h : TokB blk tk e nx) (hn : nx ≤ nx') (hb : ∀ b, b < nx → blk b = .tok → blk' b = .tok) : TokB blk' tk e nx' := by
  rcases h with h | ⟨o, h1, h2, h3⟩
  · exact .inl h
  · exact .inr ⟨o, h1, hb o h3 h2, by omega⟩

theorem TokB.grow {blk : Nat → Blk} {tk : Tok} {e s nx : Nat} (hs : s < nx) : TokB (upds blk (tokWr tk s)) (.own s e) e nx := by
  refine .inr ⟨s, rfl, ?_, hs⟩
  cases tk <;> simp [tokWr, upds, upd]

theorem tokWr_keep {blk : Nat → Blk} {tk : Tok} {e s nx b : Nat} (h : TokB blk tk e nx) (hb : blk b ≠ .tok) (hs : b ≠ s) : upds blk (tokWr tk s) b = blk b := by
  rcases h with rfl | ⟨o, rfl, h2, h3⟩
  · simp [tokWr, upds, upd, hs]
  · have : b ≠ o := fun e => hb (by rw [e]; exact h2)
    simp [tokWr, upds, upd, hs, this]

theorem app62 {mu : TypeId → Bool} {s : Nat} {blk : Nat → Blk} {xs : List Int} {tk tk' : Tok} {x : Int} {nx : Nat} (hmu : mu 62 = false) (ht : TokB blk tk 1 nx) (hl : xs.length < 2 ^ 40) :
    builtinD E.T mu s blk .append [62, 62] [.frz (xs.map (D.int .i64)) tk, .frz [.int .i64 x] tk'] = some { v := .frz ((xs ++ [x]).map (D.int .i64)) (.own s 1), wr := tokWr tk s, rd := tokRd tk } := by
  have hall : ∀ z ∈ xs.map (D.int .i64) ++ [.int .i64 x], z.cells.length = 1 := fun z hz => by
    rcases List.mem_append.1 hz with hz | hz
    · obtain ⟨y, _, rfl⟩ := List.mem_map.1 hz; rfl
    · simp at hz; subst hz; rfl
  have hle : ((xs.map (D.int .i64)).length + [D.int .i64 x].length) * 8 * 2 ≤ maxAppend := by
    simp only [List.length_map, List.length_singleton, maxAppend]; omega
  rcases ht with rfl | ⟨o, rfl, h2, h3⟩
  · simp only [builtinD, ok_62, desc_62, if_true, appendD, elem_62, elemsD, hmu, Bool.false_eq_true, if_false, mapK, snapDepth, snap_int, size_3, bytes_3, kills, List.map_nil, List.append_nil, List.nil_append]
    rw [if_pos ⟨hall, hle, by decide, by decide⟩]
    simp [tokWr, tokRd]
  · simp only [builtinD, ok_62, desc_62, if_true, appendD, elem_62, elemsD, hmu, Bool.false_eq_true, if_false, mapK, snapDepth, snap_int, size_3, bytes_3, kills, List.map_nil, List.append_nil, List.nil_append]
    rw [if_pos ⟨hall, hle, by decide, by decide⟩]
    simp only [if_true, h2]
    simp [tokWr, tokRd]
end Go.Eng.E3

namespace Go.Eng.E3
open Go Go.Eng Go.Proofs
set_option maxRecDepth 100000
attribute [local simp] execR runOps stepOp wantedD evalOp opd upd St.put Eff.apply upds looseOk FP.free FP.idle apart Eff.fp ofVal loadD storeD partD setPart indexAddrD isShift arith unD callOp mapO D.okc pickD buildable buildD placeD convD
set_option linter.unusedSimpArgs false
set_option maxHeartbeats 2000000

/-- The edge of a state, which may be none. -/
def nextM (m : M) (s : Int) (i : Nat) : Int × Int := if s < 0 then (-1, -1) else (m.rows.getD s.toNat []).getD i (0, 0)

def StOk (m : M) (s : Int) : Prop := s = -1 ∨ (0 ≤ s ∧ s < m.rows.length)

theorem nextM_ok {m : M} (hv : Valid m) {s : Int} (hs : StOk m s) {i : Nat} (hi : i < m.ins) : EdgeOk m (nextM m s i) := by
  rcases hs with rfl | ⟨h1, h2⟩
  · exact .inl rfl
  · have hl : s.toNat < m.rows.length := by omega
    have hli : i < m.rows[s.toNat].length := by rw [hv.len _ (List.getElem_mem hl)]; exact hi
    have : nextM m s i = m.rows[s.toNat][i] := by simp [nextM, show ¬ s < 0 by omega, hl, hli]
    rw [this]
    exact hv.ok _ (List.getElem_mem hl) _ (List.getElem_mem hli)

theorem nextM_st {m : M} (hv : Valid m) {s : Int} (hs : StOk m s) {i : Nat} (hi : i < m.ins) : StOk m (nextM m s i).1 := by
  rcases nextM_ok hv hs hi with h | h
  · rw [h]; exact .inl rfl
  · exact .inr ⟨h.1, h.2.1⟩

theorem spec54 {m : M} (hv : Valid m) {s : Int} (hs : StOk m s) {i : Nat} (hi : i < m.ins) : bodyR 54 [encM m, .int .i64 s, .int .i64 i] = some (pD (nextM m s i)) := by
  refine bodyR_V (run54 _ _ (by simp)) ?_
  unfold b54
  refine .then xr54_0 (by simp [o54_0, builtinD, lenD, pD, argA, encM]; rfl) ?_
  refine .assoc (.then xr54_1 (by simp [o54_1, builtinD, lenD, pD, argA]; rfl) ?_)
  refine .seq (.cond (by simp [opd, upd]; rfl) (fun ht => ?_) (fun hf => .skip ?_))
  · have hn : s < 0 := by simpa using ht
    refine .then xr54_2 (by simp [o54_2, builtinD, lenD, pD, argA, buildable, buildD, placeD]; rfl) ?_
    refine .ret ⟨_, by simp [resultsD, mapO, resultD, upd, upds, loadD, partD]; rfl, by simp [snap, snapDepth, mapK, nextM, hn, pD]⟩
  · have hn : ¬ s < 0 := by simpa using hf
    have h2 : 0 ≤ s ∧ s < m.rows.length := by rcases hs with rfl | hs; · simp at hn
                                              exact hs
    have h3 : s.toNat < m.rows.length := by omega
    have hli : i < m.rows[s.toNat].length := by rw [hv.len _ (List.getElem_mem h3)]; exact hi
    have h21 := h2.1
    have h22 := h2.2
    refine .then xr54_3 (by simp [o54_3, builtinD, lenD, pD, argA, h21, h22, h3, hli, rowD]; rfl) ?_
    refine .ret ⟨_, by simp [resultsD, mapO, resultD, upd, upds, loadD, partD]; rfl, by simp [snap, snapDepth, mapK, nextM, hn, pD, h3, hli]⟩

theorem call54 {m : M} (hv : Valid m) {s : Int} (hs : StOk m s) {i : Nat} (hi : i < m.ins) (h : H) : callI E (.fn 54 []) [.agg [.int .i64 m.ins, .int .i64 m.outs, .frz (m.rows.map rowD) .unk], .int .i64 s, .int .i64 i] h = some (.agg [.int .i64 (nextM m s i).1, .int .i64 (nextM m s i).2], h, {}) :=
  call_pure (by decide) (snaps3 (snap_encM _ _ 4 m) rfl rfl) (spec54 hv hs hi)

/-- The responses to a word, and the state behind it. -/
def runM (m : M) : Int → List Nat → List Int
  | _, [] => []
  | s, i :: w => (nextM m s i).2 :: runM m (nextM m s i).1 w
def aftM (m : M) : Int → List Nat → Int
  | s, [] => s
  | s, i :: w => aftM m (nextM m s i).1 w

theorem runM_append (m : M) : ∀ (u w : List Nat) (s : Int), runM m s (u ++ w) = runM m s u ++ runM m (aftM m s u) w
  | [], _, _ => rfl
  | i :: u, w, s => by simp only [List.cons_append, runM, aftM, runM_append m u w]
theorem aftM_append (m : M) : ∀ (u w : List Nat) (s : Int), aftM m s (u ++ w) = aftM m (aftM m s u) w
  | [], _, _ => rfl
  | i :: u, w, s => by simp only [List.cons_append, aftM, aftM_append m u w]
theorem runM_len (m : M) : ∀ (u : List Nat) (s : Int), (runM m s u).length = u.length
  | [], _ => rfl
  | i :: u, s => by simp only [runM, List.length_cons, runM_len m u]

/-- The room of a list that append has built, when it is handed on. -/
def tkA {α : Type} (l : List α) : Tok := if l.isEmpty then .nil else .unk

structure I22 (m : M) (s0 : Int) (w : List Nat) (k : Nat) (st : St) : Prop where
  le : k ≤ w.length
  h1 : st.A 1 = .int .i64 (aftM m s0 (w.take (w.length - k)))
  h2 : st.A 2 = .frz (w.map natD) .unk
  h3 : st.A 3 = .ptr 0 0 0
  h8 : st.A 8 = .int .i64 ((w.length - k : Nat) : Int)
  hb : st.h.blk 0 = .live 3 [encM m]
  hn : 1 ≤ st.h.next
  h7 : ∃ tk, st.A 7 = .frz ((runM m s0 (w.take (w.length - k))).map (D.int .i64)) tk ∧ TokB st.h.blk tk 1 st.h.next ∧ (tk = .nil ↔ w.length - k = 0)
  so : StOk m (aftM m s0 (w.take (w.length - k)))

theorem mu22 : E.pol.mu 22 62 = false := by decide

theorem spec22 {m : M} (hv : Valid m) {s0 : Int} (hs : StOk m s0) {w : List Nat} (hw : ∀ i ∈ w, i < m.ins) (hL : w.length < 2 ^ 40) : bodyR 22 [encM m, .int .i64 s0, .frz (w.map natD) .unk] = some (.frz ((runM m s0 w).map (D.int .i64)) (tkA w)) := by
  refine bodyR_V (run22 _ _ (by simp)) ?_
  unfold b22
  refine .then xr22_0 (by simp [o22_0, builtinD, lenD, pD, argA, encM]; rfl) ?_
  refine .then xr22_1 (by simp [o22_1, builtinD, lenD, pD, argA]; rfl) ?_
  refine .assoc (.then xr22_2 (by simp [o22_2, builtinD, lenD, pD, argA]; rfl) ?_)
  refine .seq (.block (V.count (I22 m s0 w) ?_ ?_ w.length _ ⟨Nat.le_refl _, by simp [upd, argA, aftM], by simp [upd, argA], by simp [upd], by simp [upd], by simp [upd, encM], by simp, ⟨.nil, by simp [upd, runM], .inl rfl, by simp⟩, by simpa [aftM] using hs⟩))
  · rintro k ⟨A, h⟩ ⟨le, h1, h2, h3, h8, hb, hn, ⟨tk, h7, ht, htn⟩, so⟩
    have hlt : w.length - (k + 1) < w.length := by omega
    generalize hi : w.length - (k + 1) = i at *
    have hk' : w.length - k = i + 1 := by omega
    have hwr : IntKind.i64.wrap ((i : Int) + 1) = ((i + 1 : Nat) : Int) := by rw [wrap_id] <;> omega
    have hwi : w[i] < m.ins := hw _ (List.getElem_mem hlt)
    have htake : w.take (i + 1) = w.take i ++ [w[i]] := (List.take_succ_eq_append_getElem hlt)
    generalize hsi : aftM m s0 (w.take i) = si at *
    have hrl : (runM m s0 (w.take i)).length < 2 ^ 40 := by rw [runM_len]; simp; omega
    simp only at h1 h2 h3 h7 h8 hb hn ht
    have hb0 : ∀ j, (0 = h.next + j) = False := fun j => by simp; omega
    have hb1 : (0 = h.next) = False := by simp; omega
    rw [cl22_0]
    refine .assoc (.then xr22_3 (by simp [o22_3, builtinD, lenD, pD, argA, h8, h2]; rfl) ?_)
    refine .head (by simp [opd, upd]; rfl) (fun _ => ?_) (fun hf => by simp [hlt] at hf)
    refine .seq (.block (.then xr22_5 (by simp [o22_5, builtinD, lenD, pD, argA, h1, h2, h3, h8, hb, encM, hlt, natD, call54 hv so hwi, hb0, hb1]; rfl) ?_))
    have e2 : upd (upd h.blk (h.next + 4 + 7) (.live 2 [.agg [.int .i64 0, .int .i64 0]])) (h.next + 4 + 7) (.live 2 [.agg [.int .i64 (nextM m si w[i]).1, .int .i64 (nextM m si w[i]).2]]) (h.next + 4 + 7) = .live 2 [.agg [.int .i64 (nextM m si w[i]).1, .int .i64 (nextM m si w[i]).2]] := by simp
    have e3 : ∀ b, b < h.next → upd (upd h.blk (h.next + 4 + 7) (.live 2 [.agg [.int .i64 0, .int .i64 0]])) (h.next + 4 + 7) (.live 2 [.agg [.int .i64 (nextM m si w[i]).1, .int .i64 (nextM m si w[i]).2]]) b = h.blk b := fun b hb => by
      simp [upd, show b ≠ h.next + 4 + 7 by omega]
    generalize upd (upd h.blk (h.next + 4 + 7) (.live 2 [.agg [.int .i64 0, .int .i64 0]])) (h.next + 4 + 7) (.live 2 [.agg [.int .i64 (nextM m si w[i]).1, .int .i64 (nextM m si w[i]).2]]) = blk1 at *
    have ht1 : TokB blk1 tk 1 (h.next + 4 + 9) := ht.mono (by omega) (fun b hb1 hb2 => by rw [e3 b hb1]; exact hb2)
    have ha : ∀ s, builtinD E.T (E.pol.mu 22) s blk1 .append [62, 62] [.frz ((runM m s0 (w.take i)).map (D.int .i64)) tk, .frz [.int .i64 (nextM m si w[i]).2] .exact] = some { v := .frz ((runM m s0 (w.take i) ++ [(nextM m si w[i]).2]).map (D.int .i64)) (.own s 1), wr := tokWr tk s, rd := tokRd tk } := fun s => app62 mu22 ht1 hrl
    have ha0 := fun s => tokWr_keep (s := s) (b := h.next + 4 + 7) ht1 (by rw [e2]; simp)
    refine .then xr22_6 (by simp [o22_6, pD, argA, h7, e2, ha, mu22, mapK, snapDepth, snap_int, kills]; rfl) ?_
    refine .reg xr22_7 (by simp [o22_7, builtinD, lenD, pD, argA, ha0, e2]; rfl) ?_
    show V E 22 31 r22_4 _ _
    have hb1' : blk1 0 = .live 3 [encM m] := by rw [e3 0 (by omega)]; exact hb
    have ha1 := tokWr_keep (s := h.next + 4 + 9 + 4) (b := 0) ht1 (by rw [hb1']; simp) (by omega)
    have haft : aftM m s0 (w.take (i + 1)) = (nextM m si w[i]).1 := by rw [htake, aftM_append, hsi]; rfl
    have hrun : runM m s0 (w.take (i + 1)) = runM m s0 (w.take i) ++ [(nextM m si w[i]).2] := by rw [htake, runM_append, hsi]; rfl
    refine .reg xr22_4 (by simp [o22_4, builtinD, lenD, pD, argA, h8]; rfl) ⟨by omega, ?_, ?_, ?_, ?_, ?_, ?_, ⟨.own (h.next + 4 + 9 + 4) 1, ?_, ?_, by simp; omega⟩, ?_⟩
    · simp [upd, hk', haft]
    · simp [upd, h2]
    · simp [upd, h3]
    · simp [upd, hk', hwr]
    · simp only [upds]; rw [ha1]; exact hb1'
    · simp <;> omega
    · simp [upd, hk', hrun]
    · exact TokB.grow (blk := blk1) (by simp <;> omega)
    · rw [hk', haft]; exact nextM_st hv so hwi
  · rintro ⟨A, h⟩ ⟨le, h1, h2, h3, h8, hb, hn, ⟨tk, h7, ht, htn⟩, so⟩
    simp only at h1 h2 h3 h7 h8 hb hn ht
    rw [cl22_0]
    refine .assoc (.then xr22_3 (by simp [o22_3, builtinD, lenD, pD, argA, h8, h2]; rfl) ?_)
    refine .head (by simp [opd, upd]; rfl) (fun hf => by simp at hf) (fun _ => ?_)
    refine .then xr22_8 (by simp [o22_8, builtinD, lenD, pD, argA, h7]; rfl) (.ret ⟨_, by simp [resultsD, mapO, resultD, upd]; rfl, ?_⟩)
    rw [show snapDepth = 7 + 2 from rfl, snap_ints]
    have : Tok.fade true tk = tkA w := by
      rcases ht with rfl | ⟨o, rfl, _, _⟩
      · have : w = [] := by have := htn.1 rfl; simpa using this
        subst this; rfl
      · have : w ≠ [] := fun e => by subst e; have := htn.2 rfl; cases this
        cases w with
        | nil => exact absurd rfl this
        | cons _ _ => rfl
    simp [this]

theorem call22 {m : M} (hv : Valid m) {s0 : Int} (hs : StOk m s0) {w : List Nat} (hw : ∀ i ∈ w, i < m.ins) (hL : w.length < 2 ^ 40) (h : H) : callI E (.fn 22 []) [.agg [.int .i64 m.ins, .int .i64 m.outs, .frz (m.rows.map rowD) .unk], .int .i64 s0, .frz (w.map natD) .unk] h = some (.frz ((runM m s0 w).map (D.int .i64)) (tkA w), h, {}) :=
  call_pure (by decide) (snaps3 (snap_encM _ _ 4 m) rfl (by
    show (match mapK (snap false h.blk 8) (w.map natD) with | some (ys, k) => some (D.frz ys (Tok.fade _ .unk), k) | none => none) = _
    rw [mapK_map w fun x _ => rfl]; rfl)) (spec22 hv hs hw hL)
end Go.Eng.E3

namespace Go.Eng.E3
open Go Go.Eng Go.Proofs
set_option maxRecDepth 100000
attribute [local simp] execR runOps stepOp wantedD evalOp opd upd St.put Eff.apply upds looseOk FP.free FP.idle apart Eff.fp ofVal loadD storeD partD setPart indexAddrD isShift arith unD callOp mapO D.okc pickD buildable buildD placeD convD
set_option linter.unusedSimpArgs false
set_option maxHeartbeats 2000000

theorem snap_word (kp : Bool) (blk : Nat → Blk) (n : Nat) (w : List Nat) (tk : Tok) : snap kp blk (n + 2) (.frz (w.map natD) tk) = some (.frz (w.map natD) (tk.fade kp), []) := by
  show (match mapK (snap false blk (n + 1)) (w.map natD) with | some (ys, k) => some (D.frz ys (tk.fade kp), k) | none => none) = _
  rw [mapK_map w fun x _ => rfl]

theorem cells_word (w : List Nat) : ∀ x ∈ w.map natD, x.cells.length = 1 := fun x hx => by
  obtain ⟨y, _, rfl⟩ := List.mem_map.1 hx; rfl

theorem spec121 {m : M} (hv : Valid m) : ∀ (w : List Nat) (s : Int), StOk m s → (∀ i ∈ w, i < m.ins) → w.length < 2 ^ 40 → bodyR 121 [encM m, .int .i64 s, .frz (w.map natD) .unk] = some (.int .i64 (aftM m s w))
  | [], s, hs, hw, hL => by
    refine bodyR_V (run121 _ _ (by simp)) ?_
    unfold b121
    refine .then xr121_0 (by simp [o121_0, builtinD, lenD, pD, argA, encM]; rfl) ?_
    refine .assoc (.then xr121_1 (by simp [o121_1, builtinD, lenD, pD, argA]; rfl) ?_)
    refine .seq (.cond (by simp [opd, upd]; rfl) (fun _ => ?_) (fun hf => by cases hf))
    exact .then xr121_2 (by simp [o121_2, builtinD, lenD, pD, argA]; rfl) (.ret ⟨_, by simp [resultsD, mapO, resultD, upd]; rfl, by simp [snap, snapDepth, aftM]⟩)
  | i :: w, s, hs, hw, hL => by
    have hi : i < m.ins := hw i (List.mem_cons_self ..)
    have ih := spec121 hv w (nextM m s i).1 (nextM_st hv hs hi) (fun j hj => hw j (List.mem_cons_of_mem _ hj)) (by simp at hL; omega)
    have call : ∀ h, callI E (.fn 121 []) [.agg [.int .i64 m.ins, .int .i64 m.outs, .frz (m.rows.map rowD) .unk], .int .i64 (nextM m s i).1, .frz (w.map natD) .unk] h = some (.int .i64 (aftM m (nextM m s i).1 w), h, {}) := fun h =>
      call_pure (by decide) (snaps3 (snap_encM _ _ 4 m) rfl (snap_word _ _ 7 w .unk)) ih
    have hc : ∀ x ∈ w.map natD, x.cells.length = 1 := cells_word w
    have hb1 : (1 : Int) ≤ (w.length : Int) + 1 := by omega
    have htk : List.take w.length (w.map natD) = w.map natD := List.take_of_length_le (by simp)
    refine bodyR_V (run121 _ _ (by simp)) ?_
    unfold b121
    refine .then xr121_0 (by simp [o121_0, builtinD, lenD, pD, argA, encM]; rfl) ?_
    refine .assoc (.then xr121_1 (by simp [o121_1, builtinD, lenD, pD, argA]; rfl) ?_)
    refine .seq (.cond (by simp [opd, upd]; rfl) (fun hf => by simp at hf; omega) (fun _ => .skip ?_))
    refine .then xr121_3 (by simp [o121_3, builtinD, lenD, pD, argA, call54 hv hs hi, natD, sliceD, boundsD, optInt, call, hb1, hc, htk]; rfl) ?_
    refine .ret ⟨_, by simp [resultsD, mapO, resultD, upd]; rfl, by simp [snap, snapDepth, aftM]⟩

theorem call121 {m : M} (hv : Valid m) {w : List Nat} {s : Int} (hs : StOk m s) (hw : ∀ i ∈ w, i < m.ins) (hL : w.length < 2 ^ 40) (h : H) : callI E (.fn 121 []) [.agg [.int .i64 m.ins, .int .i64 m.outs, .frz (m.rows.map rowD) .unk], .int .i64 s, .frz (w.map natD) .unk] h = some (.int .i64 (aftM m s w), h, {}) :=
  call_pure (by decide) (snaps3 (snap_encM _ _ 4 m) rfl (snap_word _ _ 7 w .unk)) (spec121 hv w s hs hw hL)

/-- A word comes before another one, both as long. -/
def lexM : List Nat → List Nat → Bool
  | a :: u, b :: v => if a = b then lexM u v else decide (a < b)
  | _, _ => false
def lessM (u v : List Nat) : Bool := if u.length = v.length then lexM u v else decide (u.length < v.length)

structure I102 (a b : List Nat) (k : Nat) (st : St) : Prop where
  le : k ≤ a.length
  h0 : st.A 0 = .frz (a.map natD) .unk
  h1 : st.A 1 = .frz (b.map natD) .unk
  h5 : st.A 5 = .int .i64 ((a.length - k : Nat) : Int)
  eq : lexM a b = lexM (a.drop (a.length - k)) (b.drop (a.length - k))

theorem spec102 {a b : List Nat} (hL : a.length < 2 ^ 40) : bodyR 102 [.frz (a.map natD) .unk, .frz (b.map natD) .unk] = some (.int .i64 (if lessM a b then 1 else 0)) := by
  refine bodyR_V (run102 _ _ (by simp)) ?_
  unfold b102
  refine .then xr102_0 (by simp [o102_0, builtinD, lenD, pD, argA]; rfl) ?_
  by_cases hl : a.length = b.length
  · refine .assoc (.then xr102_1 (by simp [o102_1, builtinD, lenD, pD, argA, hl]; rfl) ?_)
    refine .seq (.cond (by simp [opd, upd]; rfl) (fun hf => by cases hf) (fun _ => .skip ?_))
    refine .assoc (.then xr102_5 (by simp [o102_5, builtinD, lenD, pD, argA]; rfl) ?_)
    have hlm : lessM a b = lexM a b := by simp [lessM, hl]
    rw [hlm]
    refine .seq (.block (V.count (I102 a b) ?_ ?_ a.length _ ⟨Nat.le_refl _, by simp [upd, argA], by simp [upd, argA], by simp [upd], by simp⟩))
    · rintro k ⟨A, h⟩ ⟨le, h0, h1, h5, eq⟩
      have hlt : a.length - (k + 1) < a.length := by omega
      generalize hi : a.length - (k + 1) = i at *
      have hk' : a.length - k = i + 1 := by omega
      have hlt' : i < b.length := by omega
      have hw : IntKind.i64.wrap ((i : Int) + 1) = ((i + 1 : Nat) : Int) := by rw [wrap_id] <;> omega
      have da : a.drop i = a[i] :: a.drop (i + 1) := List.drop_eq_getElem_cons hlt
      have db : b.drop i = b[i] :: b.drop (i + 1) := List.drop_eq_getElem_cons hlt'
      rw [da, db, lexM] at eq
      simp only at h0 h1 h5
      rw [cl102_0]
      refine .assoc (.then xr102_6 (by simp [o102_6, builtinD, lenD, pD, argA, h0, h5]; rfl) ?_)
      refine .head (by simp [opd, upd]; rfl) (fun _ => ?_) (fun hf => by simp [hlt] at hf)
      by_cases he : a[i] = b[i]
      · refine .seq (.block (.then xr102_8 (by simp [o102_8, builtinD, lenD, pD, argA, h0, h1, h5, hlt, hlt', natD, he]; rfl) ?_))
        refine .cond (by simp [opd, upd]; rfl) (fun hf => by cases hf) (fun _ => .skip ?_)
        refine .reg xr102_7 (by simp [o102_7, builtinD, lenD, pD, argA, h5]; rfl) ⟨by omega, ?_, ?_, ?_, ?_⟩
        · simp [upd, h0]
        · simp [upd, h1]
        · simp [upd, hk', hw]
        · rw [eq, if_pos he, hk']
      · have hne : ((a[i] : Int) != (b[i] : Int)) = true := by simp; omega
        refine .seq (.block (.then xr102_8 (by simp [o102_8, builtinD, lenD, pD, argA, h0, h1, h5, hlt, hlt', natD, hne]; rfl) ?_))
        refine .cond (v := true) (by simp [opd, upd]) (fun _ => ?_) (fun hf => by cases hf)
        refine .assoc (.then xr102_9 (by simp [o102_9, builtinD, lenD, pD, argA, h0, h1, h5, hlt, hlt', natD]; rfl) ?_)
        by_cases hc : a[i] < b[i]
        · refine .seq (.cond (v := true) (by simp [opd, upd, hc]) (fun _ => ?_) (fun hf => by cases hf))
          exact .then xr102_10 (by simp [o102_10, builtinD, lenD, pD, argA]; rfl) (.ret ⟨_, by simp [resultsD, mapO, resultD, upd]; rfl, by simp [snap, snapDepth, eq, he, hc]⟩)
        · refine .seq (.cond (v := false) (by simp [opd, upd]; omega) (fun hf => by cases hf) (fun _ => .skip ?_))
          exact .then xr102_11 (by simp [o102_11, builtinD, lenD, pD, argA]; rfl) (.ret ⟨_, by simp [resultsD, mapO, resultD, upd]; rfl, by simp [snap, snapDepth, eq, he, hc]⟩)
    · rintro ⟨A, h⟩ ⟨le, h0, h1, h5, eq⟩
      simp only at h0 h1 h5
      rw [cl102_0]
      refine .assoc (.then xr102_6 (by simp [o102_6, builtinD, lenD, pD, argA, h0, h5]; rfl) ?_)
      refine .head (by simp [opd, upd]; rfl) (fun hf => by simp at hf) (fun _ => ?_)
      exact .then xr102_12 (by simp [o102_12, builtinD, lenD, pD, argA]; rfl) (.ret ⟨_, by simp [resultsD, mapO, resultD, upd]; rfl, by simp [snap, snapDepth, eq, lexM]⟩)
  · have hne : ((a.length : Int) != (b.length : Int)) = true := by simp; omega
    have hlm : lessM a b = decide (a.length < b.length) := by simp [lessM, hl]
    rw [hlm]
    refine .assoc (.then xr102_1 (by simp [o102_1, builtinD, lenD, pD, argA, hne]; rfl) ?_)
    refine .seq (.cond (v := true) (by simp [opd, upd]) (fun _ => ?_) (fun hf => by cases hf))
    refine .assoc (.then xr102_2 (by simp [o102_2, builtinD, lenD, pD, argA]; rfl) ?_)
    by_cases hc : a.length < b.length
    · refine .seq (.cond (v := true) (by simp [opd, upd, hc]) (fun _ => ?_) (fun hf => by cases hf))
      exact .then xr102_3 (by simp [o102_3, builtinD, lenD, pD, argA]; rfl) (.ret ⟨_, by simp [resultsD, mapO, resultD, upd]; rfl, by simp [snap, snapDepth, hc]⟩)
    · refine .seq (.cond (v := false) (by simp [opd, upd]; omega) (fun hf => by cases hf) (fun _ => .skip ?_))
      exact .then xr102_4 (by simp [o102_4, builtinD, lenD, pD, argA]; rfl) (.ret ⟨_, by simp [resultsD, mapO, resultD, upd]; rfl, by simp [snap, snapDepth, hc]⟩)

theorem call102 {a b : List Nat} (hL : a.length < 2 ^ 40) (h : H) : callI E (.fn 102 []) [.frz (a.map natD) .unk, .frz (b.map natD) .unk] h = some (.int .i64 (if lessM a b then 1 else 0), h, {}) :=
  call_pure (by decide) (snaps2 (snap_word _ _ 7 a .unk) (snap_word _ _ 7 b .unk)) (spec102 hL)
end Go.Eng.E3

namespace Go.Eng.E3
open Go Go.Eng Go.Proofs
set_option maxRecDepth 100000
attribute [local simp] execR runOps stepOp wantedD evalOp opd upd St.put Eff.apply upds looseOk FP.free FP.idle apart Eff.fp ofVal loadD storeD partD setPart indexAddrD isShift arith unD callOp mapO D.okc pickD buildable buildD placeD convD
set_option linter.unusedSimpArgs false
set_option maxHeartbeats 2000000

/-- A loop with a measure that falls. -/
theorem V_while {E : Env} {cur : FuncId} {N : Nat} {c : Code} {Q : Po} (I : Nat → St → Prop) (hstep : ∀ k s, I k s → V E cur N c s (Q.upto fun s' => ∃ k', k' < k ∧ I k' s')) : ∀ k s, I k s → V E cur N (.loop c) s Q := by
  intro k
  induction k using Nat.strongRecOn with
  | ind k ih =>
    intro s h
    refine .loop ((hstep k s h).mono fun x s' hh => ?_)
    cases x with
    | normal => obtain ⟨k', hk, hi⟩ := hh; exact ih k' hk s' hi
    | exit i => exact hh
    | goto l => exact hh
    | ret => exact hh

/-- A word with what is known of its room. -/
def wD (p : List Nat × Tok) : D := .frz (p.1.map natD) p.2

/-- A list of words in the heap. -/
def WL (h : H) (v : D) (l : List (List Nat)) (lo hi : Nat) : Prop :=
  (l = [] ∧ v = .frz [] .nil) ∨ ∃ (b : Nat) (ps : List (List Nat × Tok)) (ex : Bool), v = .sl b 1 0 l.length ex ∧ h.blk b = .live 1 (ps.map wD) ∧ ps.map (·.1) = l ∧ lo ≤ b ∧ b < hi

theorem WL.frame {h h' : H} {v : D} {l : List (List Nat)} {lo hi hi' : Nat} (m : WL h v l lo hi) (e : ∀ b, lo ≤ b → b < hi → h'.blk b = h.blk b) (hh : hi ≤ hi') : WL h' v l lo hi' := by
  rcases m with m | ⟨b, ps, ex, h1, h2, h3, h4, h5⟩
  · exact .inl m
  · exact .inr ⟨b, ps, ex, h1, by rw [e b h4 h5]; exact h2, h3, h4, by omega⟩

theorem wD_cells (p : List Nat × Tok) : (wD p).cells.length = 1 := rfl

@[simp] theorem natD_cells (a : Nat) : (natD a).cells.length = 1 := rfl
theorem mu98a : E.pol.mu 98 62 = false := by decide
theorem mu98b : E.pol.mu 98 37 = true := by decide
theorem mu98c : E.pol.mu 98 123 = true := by decide

theorem appW1 {mu : TypeId → Bool} {s : Nat} {blk : Nat → Blk} {w : List Nat} {tk : Tok} (hmu : mu 62 = false) (hl : w.length < 2 ^ 39) :
    builtinD E.T mu s blk .append [62, 62] [.frz [] .exact, .frz (w.map natD) tk] = some { v := .frz (w.map natD) (.own s 1), wr := [(s, .tok)] } := by
  have hsn : mapK (snap false blk snapDepth) (w.map natD) = some (w.map natD, []) := mapK_map w fun x _ => rfl
  have hle : ([] ++ w.map natD).length * 8 * 2 ≤ maxAppend := by simp [maxAppend]; omega
  simp only [builtinD, ok_62, desc_62, if_true, appendD, elem_62, elemsD, hmu, Bool.false_eq_true, if_false, hsn, size_3, bytes_3, kills, List.map_nil, List.nil_append]
  rw [if_pos ⟨cells_word w, by simpa using hle, by decide, by decide⟩]

theorem appW2 {mu : TypeId → Bool} {s o : Nat} {blk : Nat → Blk} {w : List Nat} {i : Nat} (hmu : mu 62 = false) (hl : w.length < 2 ^ 39) (ho : blk o = .tok) :
    builtinD E.T mu s blk .append [62, 62] [.frz (w.map natD) (.own o 1), .frz [.int .i64 i] .exact] = some { v := .frz ((w ++ [i]).map natD) (.own s 1), wr := [(o, .dead), (s, .tok)], rd := [o] } := by
  have hall : ∀ z ∈ w.map natD ++ [D.int .i64 i], z.cells.length = 1 := fun z hz => by
    rcases List.mem_append.1 hz with hz | hz
    · exact cells_word w z hz
    · simp at hz; subst hz; rfl
  have hle : ((w.map natD).length + [D.int .i64 (i : Int)].length) * 8 * 2 ≤ maxAppend := by simp only [List.length_map, List.length_singleton, maxAppend]; omega
  simp only [builtinD, ok_62, desc_62, if_true, appendD, elem_62, elemsD, hmu, Bool.false_eq_true, if_false, mapK, snapDepth, snap_int, size_3, bytes_3, kills, List.map_nil, List.append_nil, List.nil_append]
  rw [if_pos ⟨hall, hle, by decide, by decide⟩]
  simp only [if_true, ho]
  simp [natD]

theorem appL0 {mu : TypeId → Bool} {s c : Nat} {blk : Nat → Blk} {x : D} {ex : Bool} (hmu : mu 37 = true) (hc : blk c = .live 1 [x]) (hx : x.cells.length = 1) :
    builtinD E.T mu s blk .append [37, 37] [.frz [] .nil, .sl c 1 0 1 ex] = some { v := .sl s 1 0 1 false, wr := [(s, .live 1 [x])], rd := [c] } := by
  simp only [builtinD, ok_37, desc_37, if_true, appendD, elem_37, elemsD, hc, row_live, hmu, size_62, bytes_62]
  simp [hx, maxAppend]

theorem appL1 {mu : TypeId → Bool} {s b c n : Nat} {blk : Nat → Blk} {x : D} {ex ex' : Bool} {xs : List D} (_hmu : mu 37 = true) (hc : blk c = .live 1 [x]) (hx : x.cells.length = 1) (hb : blk b = .live 1 xs) (hn : n = xs.length) (hbc : b ≠ c) (hl : n < 2 ^ 39) :
    builtinD E.T mu s blk .append [37, 37] [.sl b 1 0 n ex', .sl c 1 0 1 ex] = some { v := .sl s 1 0 (n + 1) false, wr := [(b, .dead), (s, .live 1 (xs ++ [x]))], rd := [b, c] } := by
  have hle : (n + 1) * 24 * 2 ≤ maxAppend := by unfold maxAppend; omega
  simp only [builtinD, ok_37, desc_37, if_true, appendD, elem_37, elemsD, hc, hb, row_live, size_62, bytes_62]
  simp [hx, hle, hn, hbc]
  omega

/-- One more word: the last but one, and an input. -/
theorem push98 {A : Nat → D} {h : H} {lo i k : Nat} {ws more : List (List Nat)} {w : List Nat} (h8 : WL h (A 8) ws 0 lo) (h9 : WL h (A 9) more lo h.next) (h10 : A 10 = .int .i64 k) (h12 : A 12 = .int .i64 i) (hw : ws[k]? = some w) (hl : w.length < 2 ^ 39) (hm : more.length < 2 ^ 39) (hlo : lo ≤ h.next) :
    ∃ A' h', execR E (callI E) 98 o98_16 [] ⟨A, h⟩ = some ⟨A', h'⟩ ∧ (∀ t, t < 69 → t ≠ 9 → A' t = A t) ∧ h'.next = h.next + 13 ∧ (∀ b, b < lo → h'.blk b = h.blk b) ∧ WL h' (A' 9) (more ++ [w ++ [i]]) lo h'.next := by
  rcases h8 with ⟨rfl, _⟩ | ⟨b8, p8, x8, v8, g8, e8, _, g8b⟩
  · simp at hw
  have hk : k < ws.length := (List.getElem?_eq_some_iff.1 hw).1
  have hkp : k < p8.length := by have := congrArg List.length e8; simp at this; omega
  have hpw : p8[k].1 = w := by
    have : (p8.map (·.1))[k]? = some w := by rw [e8]; exact hw
    simpa [hkp] using this
  obtain ⟨tkw, hpk⟩ : ∃ tk, p8[k] = (w, tk) := ⟨p8[k].2, by rw [← hpw]⟩
  have hb8 : ∀ j, ¬ b8 = h.next + j := by omega
  have hb80 : ¬ b8 = h.next := by omega
  rcases h9 with ⟨rfl, v9⟩ | ⟨b9, p9, x9, v9, g9, e9, g9a, g9b⟩
  · refine ⟨_, _, by simp [pD, argA, o98_16, v8, v9, h10, h12, g8, hk, hkp, hpk, wD, mapK, mu98a, mu98b, kills, hb8, hb80, show List.range 0 = [] from rfl, appW1 mu98a hl, appW2 mu98a hl, appL0 mu98b, snap_int, snapDepth]; first | exact ⟨rfl, rfl⟩ | rfl, ?_, ?_, ?_, ?_⟩
    · intro t ht h9; simp [upd, h9, show ∀ c, 69 ≤ c → ¬ t = c from fun c h => by omega]
    · rfl
    · intro b hb; have e : ∀ j, ¬ b = h.next + j := by omega
      simp [upd, upds, e]
    · refine .inr ⟨h.next + 11, [(w ++ [i], .own (h.next + 9) 1)], false, by simp [upd], ?_, rfl, by omega, by simp⟩
      simp [upd, upds, wD]
  · have e9l : p9.length = more.length := by have := congrArg List.length e9; simpa using this
    have hb9 : ∀ j, ¬ b9 = h.next + j := by omega
    have hb90 : ¬ b9 = h.next := by omega
    have hal : ∀ (s : Nat) (blk : Nat → Blk) (x : D), blk (h.next + 10) = .live 1 [x] → x.cells.length = 1 → blk b9 = .live 1 (p9.map wD) → builtinD E.T (E.pol.mu 98) s blk .append [37, 37] [.sl b9 1 0 more.length x9, .sl (h.next + 10) 1 0 1 true] = some { v := .sl s 1 0 (more.length + 1) false, wr := [(b9, .dead), (s, .live 1 (p9.map wD ++ [x]))], rd := [b9, h.next + 10] } := fun s blk x q1 q2 q3 =>
      appL1 mu98b q1 q2 q3 (by simp [e9l]) (by omega) hm
    refine ⟨_, _, by simp [pD, argA, o98_16, v8, v9, h10, h12, g8, g9, hk, hkp, hpk, wD, mapK, mu98a, mu98b, kills, hb8, hb80, hb9, hb90, show List.range 0 = [] from rfl, appW1 mu98a hl, appW2 mu98a hl, hal, snap_int, snapDepth]; first | exact ⟨rfl, rfl⟩ | rfl, ?_, ?_, ?_, ?_⟩
    · intro t ht h9; simp [upd, h9, show ∀ c, 69 ≤ c → ¬ t = c from fun c h => by omega]
    · rfl
    · intro b hb; have e : ∀ j, ¬ b = h.next + j := by omega
      simp [upd, upds, e, show ¬ b = b9 by omega]
    · refine .inr ⟨h.next + 11, p9 ++ [(w ++ [i], .own (h.next + 9) 1)], false, by simp [upd], ?_, by simp [e9], by omega, by simp⟩
      simp [upd, upds, wD]
end Go.Eng.E3

namespace Go.Eng.E3
open Go Go.Eng Go.Proofs
set_option maxRecDepth 100000
attribute [local simp] execR runOps stepOp wantedD evalOp opd upd St.put Eff.apply upds looseOk FP.free FP.idle apart Eff.fp ofVal loadD storeD partD setPart indexAddrD isShift arith unD callOp mapO D.okc pickD buildable buildD placeD convD
set_option linter.unusedSimpArgs false
set_option maxHeartbeats 4000000

structure Lv (m : M) (f N : Nat) (l : List (List Nat)) (is : List Bool) (ws more : List (List Nat)) (st : St) : Prop where
  h1 : st.A 1 = .int .i64 f
  h2 : st.A 2 = .ptr 0 0 0
  h6 : st.A 6 = .sl 6 1 0 m.rows.length true
  h7 : st.A 7 = .sl 11 1 0 m.rows.length true
  hb : st.h.blk 0 = .live 3 [encM m]
  hl : ∃ pl : List (List Nat × Tok), st.h.blk 6 = .live 1 (pl.map wD) ∧ pl.map (·.1) = l
  hi : st.h.blk 11 = .live 1 (is.map D.bool)
  ll : l.length = m.rows.length
  il : is.length = m.rows.length
  h8 : WL st.h (st.A 8) ws 12 N
  h9 : WL st.h (st.A 9) more N st.h.next
  hN : 12 ≤ N
  hn : N ≤ st.h.next

/-- Temporaries from 10 on turn, and the heap stays. -/
theorem Lv.step {m : M} {f N : Nat} {l : List (List Nat)} {is : List Bool} {ws more : List (List Nat)} {A A' : Nat → D} {h : H} {nx : Nat} (v : Lv m f N l is ws more ⟨A, h⟩) (e : ∀ t, t < 10 → A' t = A t) (hn : h.next ≤ nx) : Lv m f N l is ws more ⟨A', ⟨nx, h.blk⟩⟩ := by
  obtain ⟨q1, q2, q3, q4, q5, q6, q7, q8, q9, q10, q11, q12, q13⟩ := v
  simp only at q1 q2 q3 q4 q5 q6 q7 q10 q11 q13
  refine ⟨(e 1 (by omega)).trans q1, (e 2 (by omega)).trans q2, (e 6 (by omega)).trans q3, (e 7 (by omega)).trans q4, q5, q6, q7, q8, q9, ?_, ?_, q12, by simp only; omega⟩
  · simp only [e 8 (by omega)]; exact q10.frame (fun _ _ _ => rfl) (Nat.le_refl _)
  · simp only [e 9 (by omega)]; exact q11.frame (fun _ _ _ => rfl) hn

theorem WL.low {h : H} {v : D} {l : List (List Nat)} {lo lo' hi : Nat} (m : WL h v l lo hi) (e : lo' ≤ lo) : WL h v l lo' hi := by
  rcases m with m | ⟨b, ps, ex, h1, h2, h3, h4, h5⟩
  · exact .inl m
  · exact .inr ⟨b, ps, ex, h1, h2, h3, by omega, h5⟩

def childs (w : List Nat) (i : Nat) : List (List Nat) := (List.range i).map fun i => w ++ [i]
theorem childs_succ (w : List Nat) (i : Nat) : childs w (i + 1) = childs w i ++ [w ++ [i]] := by simp [childs, List.range_succ]

structure J98c (m : M) (f N : Nat) (l : List (List Nat)) (is : List Bool) (ws more : List (List Nat)) (w : List Nat) (k : Nat) (j : Nat) (st : St) : Prop where
  le : j ≤ m.ins
  lv : Lv m f N l is ws (more ++ childs w (m.ins - j)) st
  h10 : st.A 10 = .int .i64 k
  h12 : st.A 12 = .int .i64 ((m.ins - j : Nat) : Int)

theorem loop98c {m : M} (hv : Valid m) {f N k : Nat} {l : List (List Nat)} {is : List Bool} {ws more : List (List Nat)} {w : List Nat} (hw : ws[k]? = some w) (hwl : w.length < 2 ^ 39) (hml : more.length < 2 ^ 38) {Q : Po} (hQ : ∀ st, J98c m f N l is ws more w k 0 st → Q.x 4 st) (j : Nat) (st : St) (hI : J98c m f N l is ws more w k j st) :
    V E 98 84 (.loop l98_2) st Q := by
  have i2 := hv.i2
  refine V.count (J98c m f N l is ws more w k) ?_ ?_ j st hI
  · rintro j ⟨A, h⟩ ⟨le, lv, h10, h12⟩
    have hlt : m.ins - (j + 1) < m.ins := by omega
    generalize hi : m.ins - (j + 1) = i at *
    have hk' : m.ins - j = i + 1 := by omega
    have hwr : IntKind.i64.wrap ((i : Int) + 1) = ((i + 1 : Nat) : Int) := by rw [wrap_id] <;> omega
    have h2 := lv.h2
    have hb := lv.hb
    simp only at h2 hb h10 h12
    rw [cl98_2]
    refine .assoc (.then xr98_14 (by simp [o98_14, builtinD, lenD, pD, argA, h2, h12, hb, encM]; rfl) ?_)
    refine .head (by simp [opd, upd]; rfl) (fun _ => ?_) (fun hf => by simp [hlt] at hf)
    have lv1 := lv.step (A' := upd (upd (upd (upd A 63 (.int .i64 i)) 64 (.ptr 0 0 0)) 65 (.int .i64 m.ins)) 66 (.bool (decide (i < m.ins)))) (nx := h.next + 4) (fun t ht => by simp [upd, show ∀ c, 63 ≤ c → ¬ t = c from fun c h => by omega]) (by omega)
    generalize hA1 : upd (upd (upd (upd A 63 (D.int .i64 i)) 64 (.ptr 0 0 0)) 65 (.int .i64 m.ins)) 66 (.bool (decide (i < m.ins))) = A1 at *
    have e10 : A1 10 = .int .i64 k := by rw [← hA1]; simp [upd, h10]
    have e12 : A1 12 = .int .i64 i := by rw [← hA1]; simp [upd, h12]
    obtain ⟨A', h', e0, e1, e2, e3, e4⟩ := push98 (lo := N) (lv1.h8.low (Nat.zero_le _)) lv1.h9 e10 e12 hw hwl (by simp [childs]; omega) lv1.hn
    refine .seq (.block (.reg xr98_16 (by simpa [upds] using e0) ?_))
    have lv2 : Lv m f N l is ws (more ++ childs w i ++ [w ++ [i]]) ⟨A', h'⟩ := by
      obtain ⟨q1, q2, q3, q4, q5, q6, q7, q8, q9, q10, q11, q12, q13⟩ := lv1
      simp only at q1 q2 q3 q4 q5 q6 q7 q10 q11 q13 e2
      refine ⟨(e1 1 (by omega) (by omega)).trans q1, (e1 2 (by omega) (by omega)).trans q2, (e1 6 (by omega) (by omega)).trans q3, (e1 7 (by omega) (by omega)).trans q4, (e3 0 (by omega)).trans q5, ?_, (e3 11 (by omega)).trans q7, q8, q9, ?_, e4, q12, by simp only; omega⟩
      · obtain ⟨pl, p1, p2⟩ := q6; exact ⟨pl, (e3 6 (by omega)).trans p1, p2⟩
      · simp only [e1 8 (by omega) (by omega)]; exact q10.frame (fun b _ hb => e3 b hb) (Nat.le_refl _)
    have g12 : A' 12 = .int .i64 i := by rw [e1 12 (by omega) (by omega)]; exact e12
    have g10 : A' 10 = .int .i64 k := by rw [e1 10 (by omega) (by omega)]; exact e10
    refine .reg xr98_15 (by simp [o98_15, builtinD, lenD, pD, argA, g12]; rfl) ⟨by omega, ?_, ?_, ?_⟩
    · rw [hk', childs_succ, ← List.append_assoc]
      exact lv2.step (fun t ht => by simp [upd, show t ≠ 67 by omega, show t ≠ 68 by omega, show t ≠ 12 by omega]) (by simp)
    · simp [upd, g10]
    · simp [upd, hk', hwr]
  · rintro ⟨A, h⟩ ⟨le, lv, h10, h12⟩
    have h2 := lv.h2
    have hb := lv.hb
    simp only at h2 hb h10 h12
    rw [cl98_2]
    refine .assoc (.then xr98_14 (by simp [o98_14, builtinD, lenD, pD, argA, h2, h12, hb, encM]; rfl) ?_)
    refine .head (by simp [opd, upd]; rfl) (fun hf => by simp at hf) (fun _ => hQ _ ⟨by omega, ?_, ?_, ?_⟩)
    · exact lv.step (fun t ht => by simp [upd, show ∀ c, 63 ≤ c → ¬ t = c from fun c h => by omega]) (by simp)
    · simp [upd, h10]
    · simp [upd, h12]

/-! ### One level -/

structure PS where
  l : List (List Nat)
  is : List Bool
  more : List (List Nat)

def visitM (m : M) (f : Nat) (p : PS) (w : List Nat) : PS :=
  let t := aftM m f w
  if t < 0 ∨ p.is.getD t.toNat false = true then p else ⟨p.l.set t.toNat w, p.is.set t.toNat true, p.more ++ childs w m.ins⟩

/-- What the words of a level must be, and how many they are. -/
structure Ok98 (m : M) (c0 : Nat) (p : PS) : Prop where
  ll : p.l.length = m.rows.length
  il : p.is.length = m.rows.length
  cnt : p.more.length + m.ins * c0 = m.ins * p.is.count true

theorem visit_ok {m : M} {f c0 : Nat} {p : PS} {w : List Nat} (hs : StOk m (aftM m f w)) (o : Ok98 m c0 p) : Ok98 m c0 (visitM m f p w) := by
  unfold visitM
  simp only
  split
  · exact o
  · rename_i hc
    have hc1 : ¬ aftM m f w < 0 := fun e => hc (.inl e)
    have hc2 : ¬ p.is.getD (aftM m f w).toNat false = true := fun e => hc (.inr e)
    have hlt : (aftM m f w).toNat < p.is.length := by rw [o.il]; rcases hs with e | e <;> omega
    have hfalse : p.is[(aftM m f w).toNat] = false := by simpa [hlt] using hc2
    refine ⟨by simpa using o.ll, by simpa using o.il, ?_⟩
    have : (p.is.set (aftM m f w).toNat true).count true = p.is.count true + 1 := by
      rw [List.count_set hlt, hfalse]; simp
    simp only [this, List.length_append, childs, List.length_map, List.length_range]
    have := o.cnt
    rw [Nat.mul_add]; omega
end Go.Eng.E3

namespace Go.Eng.E3
open Go Go.Eng Go.Proofs
set_option maxRecDepth 100000
attribute [local simp] execR runOps stepOp wantedD evalOp opd upd St.put Eff.apply upds looseOk FP.free FP.idle apart Eff.fp ofVal loadD storeD partD setPart indexAddrD isShift arith unD callOp mapO D.okc pickD buildable buildD placeD convD
set_option linter.unusedSimpArgs false
set_option maxHeartbeats 4000000

def foldM (m : M) (f : Nat) (p0 : PS) (ws : List (List Nat)) : PS := ws.foldl (visitM m f) p0
def WsOk (m : M) (ws : List (List Nat)) : Prop := ∀ w ∈ ws, (∀ j ∈ w, j < m.ins) ∧ w.length < 2 ^ 38

theorem fold_ok {m : M} (hv : Valid m) {f c0 : Nat} (hf : f < m.rows.length) : ∀ (ws : List (List Nat)) (p : PS), WsOk m ws → Ok98 m c0 p → Ok98 m c0 (foldM m f p ws)
  | [], _, _, o => o
  | w :: ws, p, hw, o => by
    have hs : ∀ (u : List Nat) (s : Int), StOk m s → (∀ j ∈ u, j < m.ins) → StOk m (aftM m s u) := by
      intro u
      induction u with
      | nil => exact fun _ hs _ => hs
      | cons i u ih => intro s hs hu; exact ih _ (nextM_st hv hs (hu i (List.mem_cons_self ..))) (fun j hj => hu j (List.mem_cons_of_mem _ hj))
    have h1 := hw w (List.mem_cons_self ..)
    exact fold_ok hv hf ws _ (fun u hu => hw u (List.mem_cons_of_mem _ hu)) (visit_ok (hs w f (.inr ⟨by omega, by omega⟩) h1.1) o)

theorem aft_ok {m : M} (hv : Valid m) : ∀ (u : List Nat) (s : Int), StOk m s → (∀ j ∈ u, j < m.ins) → StOk m (aftM m s u)
  | [], _, hs, _ => hs
  | i :: u, s, hs, hu => aft_ok hv u _ (nextM_st hv hs (hu i (List.mem_cons_self ..))) (fun j hj => hu j (List.mem_cons_of_mem _ hj))

structure J98b (m : M) (f N c0 : Nat) (p0 : PS) (ws : List (List Nat)) (k : Nat) (st : St) : Prop where
  le : k ≤ ws.length
  lv : Lv m f N (foldM m f p0 (ws.take (ws.length - k))).l (foldM m f p0 (ws.take (ws.length - k))).is ws (foldM m f p0 (ws.take (ws.length - k))).more st
  h10 : st.A 10 = .int .i64 ((ws.length - k : Nat) : Int)

theorem loop98b {m : M} (hv : Valid m) {f N c0 : Nat} (hf : f < m.rows.length) {p0 : PS} {ws : List (List Nat)} (hws : WsOk m ws) (hwl : ws.length < 2 ^ 40) (ho : Ok98 m c0 p0) {Q : Po} (hQ : ∀ st, J98b m f N c0 p0 ws 0 st → Q.x 2 st) (k : Nat) (st : St) (hI : J98b m f N c0 p0 ws k st) :
    V E 98 84 (.loop l98_1) st Q := by
  have i2 := hv.i2
  have r2 := hv.r2
  refine V.count (J98b m f N c0 p0 ws) ?_ ?_ k st hI
  · rintro k ⟨A, h⟩ ⟨le, lv, h10⟩
    have hlt : ws.length - (k + 1) < ws.length := by omega
    generalize hi : ws.length - (k + 1) = i at *
    have hk' : ws.length - k = i + 1 := by omega
    have hwr : IntKind.i64.wrap ((i : Int) + 1) = ((i + 1 : Nat) : Int) := by rw [wrap_id] <;> omega
    have htk : foldM m f p0 (ws.take (i + 1)) = visitM m f (foldM m f p0 (ws.take i)) ws[i] := by
      rw [List.take_succ_eq_append_getElem hlt]; simp only [foldM, List.foldl_append, List.foldl_cons, List.foldl_nil]
    have hok := fold_ok hv hf (ws.take i) p0 (fun w hw => hws w (List.mem_of_mem_take hw)) ho
    generalize foldM m f p0 (ws.take i) = p at *
    have hwi := hws ws[i] (List.getElem_mem hlt)
    have hst := aft_ok hv ws[i] f (.inr ⟨by omega, by omega⟩) hwi.1
    have hgw : ws[i]? = some ws[i] := List.getElem?_eq_getElem hlt
    generalize ws[i] = w at *
    have hml : p.more.length < 2 ^ 38 := by
      have h1 := hok.cnt
      have h2 : p.is.count true ≤ m.rows.length := by rw [← hok.il]; exact List.count_le_length
      have h3 : m.ins * p.is.count true ≤ 16 * 64 := Nat.mul_le_mul i2 (by omega)
      omega
    have lv0 := lv
    obtain ⟨h1, h2, h6, h7, hb, ⟨pl, p5, p5f⟩, hi10, ll, il, h8, h9, hN, hn⟩ := lv0
    simp only at h1 h2 h6 h7 hb p5 hi10 h8 h9 hn h10
    rcases h8 with ⟨rfl, _⟩ | ⟨b8, p8, x8, v8, g8, e8, g8a, g8b⟩
    · simp at hlt
    have hip : i < p8.length := by have := congrArg List.length e8; simp at this; omega
    obtain ⟨tkw, hpk⟩ : ∃ tk, p8[i] = (w, tk) := by
      have : (p8.map (·.1))[i]? = some w := by rw [e8]; exact hgw
      have h' : p8[i].1 = w := by simpa [hip] using this
      exact ⟨p8[i].2, by rw [← h']⟩
    have hp8l : p8.length = ws.length := by have := congrArg List.length e8; simpa using this
    have hcall : ∀ hh, callI E (.fn 121 []) [.agg [.int .i64 m.ins, .int .i64 m.outs, .frz (m.rows.map rowD) .unk], .int .i64 f, .frz (w.map natD) tkw] hh = some (.int .i64 (aftM m f w), hh, {}) := fun hh => by
      refine call_pure (by decide) ?_ (spec121 hv w f (.inr ⟨by omega, by omega⟩) hwi.1 (by omega))
      have e1 : snap (E.pol.args 121) hh.blk snapDepth (.frz (w.map natD) tkw) = some (.frz (w.map natD) .unk, []) := by
        rw [show snapDepth = 7 + 2 from rfl, snap_word]
        cases tkw <;> rfl
      simp only [mapK, e1]
      rw [show snap (E.pol.args 121) hh.blk snapDepth (.agg [.int .i64 m.ins, .int .i64 m.outs, .frz (m.rows.map rowD) .unk]) = some (encM m, []) from snap_encM _ _ 4 m]
      rfl
    rw [cl98_1]
    refine .assoc (.then xr98_7 (by simp [o98_7, builtinD, lenD, pD, argA, v8, h10]; rfl) ?_)
    refine .head (by simp [opd, upd]; rfl) (fun _ => ?_) (fun hf => by simp [hlt] at hf)
    refine .seq (.block (.then xr98_9 (by simp [o98_9, builtinD, lenD, pD, argA, h1, h2, v8, h10, hb, encM, g8, hlt, hip, hp8l, hpk, wD, hcall]; rfl) ?_))
    have tail : ∀ (A2 : Nat → D) (h2 : H) (Q : Po), Lv m f N (visitM m f p w).l (visitM m f p w).is ws (visitM m f p w).more ⟨A2, h2⟩ → A2 10 = .int .i64 i → (∀ st, J98b m f N c0 p0 ws k st → Q.n st) → V E 98 84 r98_8 ⟨A2, h2⟩ Q := by
      intro A2 h2 Q lv2 g10 hq
      refine .reg xr98_8 (by simp [o98_8, builtinD, lenD, pD, argA, g10]; rfl) (hq _ ⟨by omega, ?_, ?_⟩)
      · rw [hk', htk]
        exact lv2.step (fun t ht => by simp [upd, show t ≠ 36 by omega, show t ≠ 37 by omega, show t ≠ 10 by omega]) (by simp)
      · simp [upd, hk', hwr]
    have skipP : (aftM m f w < 0 ∨ p.is.getD (aftM m f w).toNat false = true) → visitM m f p w = p := fun hc => by unfold visitM; simp only [hc, if_true]
    by_cases c1 : aftM m f w < 0
    · refine .assoc (.then xr98_10 (by simp [o98_10, builtinD, lenD, pD, argA, c1]; rfl) ?_)
      refine .seq (.cond (v := true) (by simp [opd, upd]) (fun _ => .exit ?_) (fun hf => by cases hf))
      show V E 98 84 r98_8 _ _
      refine tail _ _ _ ?_ (by simp [upd, h10]) (fun st hst => hst)
      rw [skipP (.inl c1)]
      exact lv.step (fun t ht => by simp [upd, show t ≠ 11 by omega, show ∀ c, 32 ≤ c → ¬ t = c from fun c h => by omega]) (by omega)
    · have c1' : 0 ≤ aftM m f w := by omega
      have htl : (aftM m f w).toNat < p.is.length := by rw [il]; rcases hst with e | e <;> omega
      have hti : aftM m f w < (m.rows.length : Int) := by rcases hst with e | e <;> omega
      have hgd : p.is.getD (aftM m f w).toNat false = p.is[(aftM m f w).toNat] := by simp [htl]
      cases c2 : p.is[(aftM m f w).toNat] with
      | true =>
        refine .assoc (.then xr98_10 (by simp [o98_10, builtinD, lenD, pD, argA, c1, c1', h7, hi10, htl, hti, c2]; rfl) ?_)
        refine .seq (.cond (v := true) (by simp [opd, upd]) (fun _ => .exit ?_) (fun hf => by cases hf))
        show V E 98 84 r98_8 _ _
        refine tail _ _ _ ?_ (by simp [upd, h10]) (fun st hst => hst)
        rw [skipP (.inr (by rw [hgd, c2]))]
        exact lv.step (fun t ht => by simp [upd, show t ≠ 11 by omega, show ∀ c, 32 ≤ c → ¬ t = c from fun c h => by omega]) (by omega)
      | false =>
        have hpll : pl.length = m.rows.length := by rw [← ll, ← p5f]; simp
        have htp : (aftM m f w).toNat < pl.length := by omega
        have hvis : visitM m f p w = ⟨p.l.set (aftM m f w).toNat w, p.is.set (aftM m f w).toNat true, p.more ++ childs w m.ins⟩ := by
          unfold visitM
          simp only
          rw [if_neg (by rw [hgd, c2]; simp; omega)]
        refine .assoc (.then xr98_10 (by simp [o98_10, builtinD, lenD, pD, argA, c1, c1', h7, hi10, htl, hti, c2]; rfl) ?_)
        refine .seq (.cond (v := false) (by simp [opd, upd]) (fun hf => by cases hf) (fun _ => .skip ?_))
        refine .then xr98_11 (by simp [o98_11, builtinD, lenD, pD, argA, h7, hi10, htl, hti, c1']; rfl) ?_
        have hb85 : ¬ b8 = 11 := by omega
        have hb86 : ¬ b8 = 6 := by omega
        refine .then xr98_12 (by simp [o98_12, builtinD, lenD, pD, argA, h6, v8, h10, g8, p5, hlt, hip, hp8l, hpk, hpll, htp, hti, c1', hb85, wD]; rfl) ?_
        refine .then xr98_13 (by simp [o98_13, builtinD, lenD, pD, argA]; rfl) ?_
        refine .block (loop98c (l := p.l.set (aftM m f w).toNat w) (is := p.is.set (aftM m f w).toNat true) (more := p.more) (N := N) (f := f) (ws := ws) (k := i) hv hgw (by omega) hml ?_ m.ins _ ⟨Nat.le_refl _, ?_, ?_, ?_⟩)
        · rintro ⟨A3, h3⟩ ⟨_, lv3, g10, g12⟩
          show V E 98 84 r98_8 _ _
          refine tail _ _ _ ?_ g10 (fun st hst => hst)
          rw [hvis]
          rw [Nat.sub_zero] at lv3
          exact lv3
        · rw [Nat.sub_self]
          refine ⟨?_, ?_, ?_, ?_, ?_, ⟨pl.set (aftM m f w).toNat (w, tkw), ?_, ?_⟩, ?_, by simpa using ll, by simpa using il, ?_, ?_, hN, by simp only; omega⟩
          · simp [upd, h1]
          · simp [upd, h2]
          · simp [upd, h6]
          · simp [upd, h7]
          · simpa [upd, upds] using hb
          · simp [upd, upds, List.map_set, wD]
          · rw [List.map_set, p5f]
          · simp [upd, upds, List.map_set]
          · refine .inr ⟨b8, p8, x8, by simp [upd, v8], ?_, e8, g8a, g8b⟩
            simp [upd, upds, hb85, hb86, g8]
          · rcases h9 with ⟨q1, q2⟩ | ⟨b9, p9, x9, q1, q2, q3, q4, q5⟩
            · refine .inl ⟨by simpa [childs] using q1, by simp [upd, q2]⟩
            · refine .inr ⟨b9, p9, x9, by simp [upd, q1, childs], ?_, by simpa [childs] using q3, q4, by simp only; omega⟩
              simp [upd, upds, show ¬ b9 = 11 by omega, show ¬ b9 = 6 by omega, q2]
        · simp [upd, h10]
        · simp [upd]
  · rintro ⟨A, h⟩ ⟨le, lv, h10⟩
    have lv0 := lv
    obtain ⟨h1, h2, h6, h7, hb, ⟨pl, p5, p5f⟩, hi10, ll, il, h8, h9, hN, hn⟩ := lv0
    simp only at h10 h8
    rw [cl98_1]
    rcases h8 with ⟨rfl, v8⟩ | ⟨b8, p8, x8, v8, g8, e8, g8a, g8b⟩
    · refine .assoc (.then xr98_7 (by simp [o98_7, builtinD, lenD, pD, argA, v8, h10]; rfl) ?_)
      refine .head (by simp [opd, upd]; rfl) (fun hf => by simp at hf) (fun _ => hQ _ ⟨by omega, ?_, ?_⟩)
      · exact lv.step (fun t ht => by simp [upd, show ∀ c, 32 ≤ c → ¬ t = c from fun c h => by omega]) (by simp)
      · simp [upd, h10]
    · refine .assoc (.then xr98_7 (by simp [o98_7, builtinD, lenD, pD, argA, v8, h10]; rfl) ?_)
      refine .head (by simp [opd, upd]; rfl) (fun hf => by simp at hf) (fun _ => hQ _ ⟨by omega, ?_, ?_⟩)
      · exact lv.step (fun t ht => by simp [upd, show ∀ c, 32 ≤ c → ¬ t = c from fun c h => by omega]) (by simp)
      · simp [upd, h10]
end Go.Eng.E3

namespace Go.Eng.E3
open Go Go.Eng Go.Proofs
set_option maxRecDepth 100000
attribute [local simp] execR runOps stepOp wantedD evalOp opd upd St.put Eff.apply upds looseOk FP.free FP.idle apart Eff.fp ofVal loadD storeD partD setPart indexAddrD isShift arith unD callOp mapO D.okc pickD buildable buildD placeD convD
set_option linter.unusedSimpArgs false
set_option maxHeartbeats 4000000

/-- The words that lead to states, which are reached, the words that are tried next; after so many levels. -/
def lev (m : M) (f : Nat) : Nat → PS
  | 0 => ⟨List.replicate m.rows.length [], List.replicate m.rows.length false, [[]]⟩
  | j + 1 => foldM m f ⟨(lev m f j).l, (lev m f j).is, []⟩ (lev m f j).more

theorem fold_more {m : M} {f : Nat} : ∀ (ws : List (List Nat)) (p : PS) (u : List Nat), u ∈ (foldM m f p ws).more → u ∈ p.more ∨ ∃ w ∈ ws, ∃ i, i < m.ins ∧ u = w ++ [i]
  | [], _, _, h => .inl h
  | w :: ws, p, u, h => by
    rcases fold_more ws (visitM m f p w) u h with h1 | ⟨v, hv, i, hi, e⟩
    · unfold visitM at h1
      simp only at h1
      split at h1
      · exact .inl h1
      · rcases List.mem_append.1 h1 with h1 | h1
        · exact .inl h1
        · simp only [childs, List.mem_map, List.mem_range] at h1
          obtain ⟨i, hi, rfl⟩ := h1
          exact .inr ⟨w, List.mem_cons_self .., i, hi, rfl⟩
    · exact .inr ⟨v, List.mem_cons_of_mem _ hv, i, hi, e⟩

def meas (m : M) (p : PS) : Nat := 2 * (m.rows.length - p.is.count true) + (if p.more.isEmpty then 0 else 1)

structure LevOk (m : M) (f j : Nat) : Prop where
  ll : (lev m f j).l.length = m.rows.length
  il : (lev m f j).is.length = m.rows.length
  ws : ∀ w ∈ (lev m f j).more, (∀ i ∈ w, i < m.ins) ∧ w.length = j
  wl : (lev m f j).more.length ≤ 1024

theorem levOk {m : M} (hv : Valid m) {f : Nat} (hf : f < m.rows.length) : ∀ j, j < 2 ^ 30 → LevOk m f j
  | 0, _ => ⟨by simp [lev], by simp [lev], fun w hw => by simp [lev] at hw; subst hw; simp, by simp [lev]⟩
  | j + 1, hj => by
    have ih := levOk hv hf j (by omega)
    have ho := fold_ok (c0 := (lev m f j).is.count true) hv hf (lev m f j).more ⟨(lev m f j).l, (lev m f j).is, []⟩ (fun w hw => ⟨(ih.ws w hw).1, by rw [(ih.ws w hw).2]; omega⟩) ⟨ih.ll, ih.il, by simp⟩
    refine ⟨ho.ll, ho.il, fun w hw => ?_, ?_⟩
    · rcases fold_more _ _ w hw with h1 | ⟨v, hv', i, hi, rfl⟩
      · cases h1
      · obtain ⟨q1, q2⟩ := ih.ws v hv'
        refine ⟨fun a ha => ?_, by simp [q2]⟩
        rcases List.mem_append.1 ha with ha | ha
        · exact q1 a ha
        · simp at ha; subst ha; exact hi
    · have h1 := ho.cnt
      have h2 : (foldM m f ⟨(lev m f j).l, (lev m f j).is, []⟩ (lev m f j).more).is.count true ≤ m.rows.length := by rw [← ho.il]; exact List.count_le_length
      have h3 : m.ins * (foldM m f ⟨(lev m f j).l, (lev m f j).is, []⟩ (lev m f j).more).is.count true ≤ 16 * 64 := Nat.mul_le_mul hv.i2 (by have := hv.r2; omega)
      show (foldM m f ⟨(lev m f j).l, (lev m f j).is, []⟩ (lev m f j).more).more.length ≤ 1024
      omega

theorem meas_step {m : M} (hv : Valid m) {f : Nat} (hf : f < m.rows.length) {j : Nat} (hj : j < 2 ^ 30) (hne : (lev m f j).more ≠ []) : meas m (lev m f (j + 1)) < meas m (lev m f j) := by
  have ih := levOk hv hf j hj
  have ho := fold_ok (c0 := (lev m f j).is.count true) hv hf (lev m f j).more ⟨(lev m f j).l, (lev m f j).is, []⟩ (fun w hw => ⟨(ih.ws w hw).1, by rw [(ih.ws w hw).2]; omega⟩) ⟨ih.ll, ih.il, by simp⟩
  have h1 := ho.cnt
  have h2 : (foldM m f ⟨(lev m f j).l, (lev m f j).is, []⟩ (lev m f j).more).is.count true ≤ m.rows.length := by rw [← ho.il]; exact List.count_le_length
  have i1 := hv.i1
  have he : (lev m f j).more.isEmpty = false := by cases h : (lev m f j).more with | nil => exact absurd h hne | cons _ _ => rfl
  unfold meas
  rw [he]
  show 2 * (m.rows.length - (foldM m f ⟨(lev m f j).l, (lev m f j).is, []⟩ (lev m f j).more).is.count true) + (if (foldM m f ⟨(lev m f j).l, (lev m f j).is, []⟩ (lev m f j).more).more.isEmpty then 0 else 1) < _
  generalize foldM m f ⟨(lev m f j).l, (lev m f j).is, []⟩ (lev m f j).more = q at *
  cases hq : q.more with
  | nil =>
    rw [hq] at h1
    simp only [List.length_nil, Nat.zero_add] at h1
    have : (lev m f j).is.count true = q.is.count true := Nat.eq_of_mul_eq_mul_left (by omega) h1
    simp [this]
  | cons a r =>
    rw [hq] at h1
    simp only [List.length_cons] at h1
    have : (lev m f j).is.count true < q.is.count true := by
      rcases Nat.lt_or_ge ((lev m f j).is.count true) (q.is.count true) with h | h
      · exact h
      · have := Nat.mul_le_mul_left m.ins h; omega
    simp; omega

structure J98a (m : M) (f : Nat) (k : Nat) (st : St) : Prop where
  j : ∃ j, k = meas m (lev m f j) ∧ j + k ≤ 2 * m.rows.length + 1 ∧ st.A 1 = .int .i64 f ∧ st.A 2 = .ptr 0 0 0 ∧ st.A 6 = .sl 6 1 0 m.rows.length true ∧ st.A 7 = .sl 11 1 0 m.rows.length true ∧ st.h.blk 0 = .live 3 [encM m] ∧
    (∃ pl : List (List Nat × Tok), st.h.blk 6 = .live 1 (pl.map wD) ∧ pl.map (·.1) = (lev m f j).l) ∧ st.h.blk 11 = .live 1 ((lev m f j).is.map D.bool) ∧ WL st.h (st.A 8) (lev m f j).more 12 st.h.next ∧ 12 ≤ st.h.next

def wordD (w : List Nat) : D := .frz (w.map natD) .unk

theorem spec98 {m : M} (hv : Valid m) {f : Nat} (hf : f < m.rows.length) : ∃ j, (lev m f j).more = [] ∧ j < 2 ^ 30 ∧ bodyR 98 [encM m, .int .i64 f] = some (.tup [.frz ((lev m f j).l.map wordD) .exact, .frz ((lev m f j).is.map D.bool) .exact]) := by
  have r1 := hv.r1
  have r2 := hv.r2
  have hmk : (m.rows.length : Int) * 24 ≤ 140737488355328 := by omega
  have hmk1 : (m.rows.length : Int) ≤ 140737488355328 := by omega
  have key : V E 98 84 b98 ⟨argA [encM m, .int .i64 f], H.empty⟩ ⟨fun _ => False, fun s => ∃ j, (lev m f j).more = [] ∧ j < 2 ^ 30 ∧ s.A 4 = .sl 6 1 0 m.rows.length true ∧ s.A 5 = .sl 11 1 0 m.rows.length true ∧
      (∃ pl : List (List Nat × Tok), s.h.blk 6 = .live 1 (pl.map wD) ∧ pl.map (·.1) = (lev m f j).l) ∧ s.h.blk 11 = .live 1 ((lev m f j).is.map D.bool), fun _ _ => False, fun _ _ => False⟩ := by
    unfold b98
    refine .then xr98_0 (by simp [o98_0, builtinD, lenD, pD, argA, encM]; rfl) ?_
    refine .then xr98_1 (by simp [o98_1, builtinD, lenD, pD, argA, hmk, mu98b]; rfl) ?_
    refine .then xr98_2 (by simp [o98_2, builtinD, lenD, pD, argA, hmk1, mu98c]; rfl) ?_
    refine .then xr98_3 (by simp [o98_3, builtinD, lenD, pD, argA, mu98a, mu98b, mapK, snapDepth, kills, show List.range 0 = [] from rfl]; rfl) ?_
    refine .seq (.block (V_while (J98a m f) ?_ (meas m (lev m f 0)) _ ⟨0, rfl, ?_, ?_, ?_, ?_, ?_, ?_, ⟨List.replicate m.rows.length ([], .nil), ?_, ?_⟩, ?_, ?_, ?_⟩))
    · rintro k ⟨A, h⟩ ⟨j, rfl, hjk, h1, h2, h6, h7, hb, ⟨pl, p5, p5f⟩, hi10, h8, hn⟩
      simp only at h1 h2 h6 h7 hb p5 hi10 h8 hn
      have hj : j < 2 ^ 30 := by omega
      have lo := levOk hv hf j hj
      have hrl : (0 : Int) < m.rows.length := by omega
      have h8c := h8
      have fin : ∀ (A2 : Nat → D) (nx : Nat), (∀ t, t < 9 → A2 t = A t) → (lev m f j).more = [] → V E 98 84 (.seq r98_18 .ret) ⟨A2, ⟨nx, h.blk⟩⟩ ⟨fun _ => False, fun s => ∃ j, (lev m f j).more = [] ∧ j < 2 ^ 30 ∧ s.A 4 = .sl 6 1 0 m.rows.length true ∧ s.A 5 = .sl 11 1 0 m.rows.length true ∧
          (∃ pl : List (List Nat × Tok), s.h.blk 6 = .live 1 (pl.map wD) ∧ pl.map (·.1) = (lev m f j).l) ∧ s.h.blk 11 = .live 1 ((lev m f j).is.map D.bool), fun _ _ => False, fun _ _ => False⟩ := fun A2 nx he hm => by
        have g6 := (he 6 (by omega)).trans h6
        have g7 := (he 7 (by omega)).trans h7
        refine .then xr98_18 (by simp [o98_18, builtinD, lenD, pD, argA, g6, g7]; rfl) (.ret ⟨j, hm, hj, by simp [upd], by simp [upd], ⟨pl, by simpa [upds] using p5, p5f⟩, by simpa [upds] using hi10⟩)
      rw [cl98_0]
      by_cases hm : (lev m f j).more = []
      · rcases h8 with ⟨_, v8⟩ | ⟨b8, p8, x8, v8, g8, e8, g8a, g8b⟩
        · refine .assoc (.then xr98_4 (by simp [o98_4, builtinD, lenD, pD, argA, h2, v8, hb, encM, hrl]; rfl) ?_)
          refine .head (by simp [opd, upd]; rfl) (fun hf => by cases hf) (fun _ => ?_)
          exact fin _ _ (fun t ht => by simp [upd, show ∀ c, 23 ≤ c → ¬ t = c from fun c h => by omega]) hm
        · rw [hm, List.length_nil] at v8
          refine .assoc (.then xr98_4 (by simp [o98_4, builtinD, lenD, pD, argA, h2, v8, hb, encM, hrl]; rfl) ?_)
          refine .head (by simp [opd, upd]; rfl) (fun hf => by cases hf) (fun _ => ?_)
          exact fin _ _ (fun t ht => by simp [upd, show ∀ c, 23 ≤ c → ¬ t = c from fun c h => by omega]) hm
      · rcases h8 with ⟨q, _⟩ | ⟨b8, p8, x8, v8, g8, e8, g8a, g8b⟩
        · exact absurd q hm
        have hpos : 0 < (lev m f j).more.length := List.length_pos_iff.2 hm
        have hposI : (0 : Int) < (lev m f j).more.length := by omega
        have hpr : 0 < m.rows.length := r1
        refine .assoc (.then xr98_4 (by simp [o98_4, builtinD, lenD, pD, argA, h2, v8, hb, encM, hrl, hpos, hposI, hpr, hm]; rfl) ?_)
        refine .head (v := true) (by simp [opd, upd]) (fun _ => ?_) (fun hf => by cases hf)
        refine .block (.then xr98_5 (by simp [o98_5, builtinD, lenD, pD, argA]; rfl) ?_)
        refine .assoc (.then xr98_6 (by simp [o98_6, builtinD, lenD, pD, argA]; rfl) ?_)
        have hms := meas_step hv hf hj hm
        have lo1 := levOk hv hf (j + 1) (by omega)
        refine .seq (.block (loop98b (N := h.next) (c0 := (lev m f j).is.count true) (f := f) (p0 := ⟨(lev m f j).l, (lev m f j).is, []⟩) (ws := (lev m f j).more) hv hf (fun w hw => ⟨(lo.ws w hw).1, by rw [(lo.ws w hw).2]; omega⟩) (by have := lo.wl; omega) ⟨lo.ll, lo.il, by simp⟩ ?_ (lev m f j).more.length _ ⟨Nat.le_refl _, ?_, ?_⟩))
        · rintro ⟨A3, h3⟩ ⟨_, lv, g10⟩
          rw [Nat.sub_zero, List.take_length] at lv
          obtain ⟨k1, k2, k6, k7, kb, k5, k10, kl, ki, k8, k9, kN, kn⟩ := lv
          simp only at k1 k2 k6 k7 kb k5 k10 k8 k9 kn
          show V E 98 84 r98_17 _ _
          refine .reg xr98_17 (by simp [o98_17, builtinD, lenD, pD, argA]; rfl) ?_
          refine ⟨meas m (lev m f (j + 1)), hms, ⟨j + 1, rfl, by omega, ?_, ?_, ?_, ?_, ?_, ?_, ?_, ?_, ?_⟩⟩
          · simp [upd, k1]
          · simp [upd, k2]
          · simp [upd, k6]
          · simp [upd, k7]
          · simpa [upds] using kb
          · obtain ⟨pl', q1, q2⟩ := k5; exact ⟨pl', by simpa [upds] using q1, q2⟩
          · simpa [upds, lev] using k10
          · simp only [upd, upds]
            exact (k9.low (lo' := 12) (by omega)).frame (h' := ⟨h3.next + 2, h3.blk⟩) (fun _ _ _ => rfl) (by simp)
          · simp; omega
        · rw [Nat.sub_self, List.take_zero]
          refine ⟨?_, ?_, ?_, ?_, ?_, ⟨pl, ?_, p5f⟩, ?_, lo.ll, lo.il, ?_, .inl ⟨rfl, by simp [upd]⟩, hn, by simp; omega⟩
          · simp [upd, h1]
          · simp [upd, h2]
          · simp [upd, h6]
          · simp [upd, h7]
          · simpa [upds] using hb
          · simpa [upds] using p5
          · simpa [upds, foldM] using hi10
          · exact .inr ⟨b8, p8, x8, by simp [upd, v8], by simpa [upds] using g8, e8, g8a, g8b⟩
        · simp [upd]
    · simp [meas, lev]; omega
    · simp [upd, argA]
    · simp [upd]
    · simp [upd]
    · simp [upd]
    · simp [upd, upds, encM]
    · simp [upd, upds, wD]
    · simp [lev]
    · simp [upd, upds, lev]
    · refine .inr ⟨14, [([], .exact)], true, by simp [upd, lev], by simp [upd, upds, wD], by simp [lev], by omega, by simp⟩
    · simp
  obtain ⟨x, s', h1, h2⟩ := key
  cases x with
  | normal => exact h2.elim
  | exit i => exact h2.elim
  | goto l => exact h2.elim
  | ret =>
    obtain ⟨j, hm, hj, e4, e5, ⟨pl, p5, p5f⟩, hi10⟩ := h2
    have lo := levOk hv hf j hj
    refine ⟨j, hm, hj, ?_⟩
    refine bodyR_V (run98 _ _ (by simp)) ⟨_, _, h1, ⟨.tup [.sl 6 1 0 m.rows.length true, .sl 11 1 0 m.rows.length true], by simp [resultsD, mapO, resultD, e4, e5], ?_⟩⟩
    have hpll : pl.length = m.rows.length := by rw [← lo.ll, ← p5f]; simp
    have sn1 : snap true s'.h.blk 8 (.sl 6 1 0 m.rows.length true) = some (.frz ((lev m f j).l.map wordD) .exact, [6]) := by
      show (match (s'.h.blk 6).row with | some (e, xs) => (if e = 1 ∧ 0 + m.rows.length ≤ xs.length then (match mapK (snap false s'.h.blk 7) ((xs.drop 0).take m.rows.length) with | some (ys, k) => some (D.frz ys (if true && true then .exact else .unk), 6 :: k) | none => none) else none) | none => none) = _
      rw [p5]
      simp only [row_live, List.length_map, List.drop_zero]
      have hmk : mapK (snap false s'.h.blk 7) (pl.map wD) = some ((lev m f j).l.map wordD, []) := by
        rw [← p5f, List.map_map]
        have : ∀ q : List (List Nat × Tok), mapK (snap false s'.h.blk 7) (q.map wD) = some (q.map (wordD ∘ fun x => x.1), []) := by
          intro q
          induction q with
          | nil => rfl
          | cons a q ih =>
            obtain ⟨w, tk⟩ := a
            rw [List.map_cons, mapK, show snap false s'.h.blk 7 (wD (w, tk)) = some (.frz (w.map natD) (tk.fade false), []) from snap_word _ _ 5 w tk]
            simp only [ih]
            cases tk <;> rfl
        exact this pl
      rw [if_pos ⟨trivial, by omega⟩, List.take_of_length_le (by simp; omega), hmk]
      rfl
    have sn2 : snap true s'.h.blk 8 (.sl 11 1 0 m.rows.length true) = some (.frz ((lev m f j).is.map D.bool) .exact, [11]) := by
      show (match (s'.h.blk 11).row with | some (e, xs) => (if e = 1 ∧ 0 + m.rows.length ≤ xs.length then (match mapK (snap false s'.h.blk 7) ((xs.drop 0).take m.rows.length) with | some (ys, k) => some (D.frz ys (if true && true then .exact else .unk), 11 :: k) | none => none) else none) | none => none) = _
      rw [hi10]
      simp only [row_live, List.length_map, List.drop_zero]
      rw [if_pos ⟨trivial, by have := lo.il; omega⟩, List.take_of_length_le (by have := lo.il; simp; omega), mapK_map _ fun x _ => rfl]
      rfl
    show Option.map _ (match mapK (snap true s'.h.blk 8) [.sl 6 1 0 m.rows.length true, .sl 11 1 0 m.rows.length true] with | some (ys, k) => some (D.tup ys, k) | none => none) = _
    simp only [mapK, sn1, sn2]
    rfl
end Go.Eng.E3

namespace Go.Eng.E3
open Go Go.Eng Go.Proofs
set_option maxRecDepth 100000
attribute [local simp] execR runOps stepOp wantedD evalOp opd upd St.put Eff.apply upds looseOk FP.free FP.idle apart Eff.fp ofVal loadD storeD partD setPart indexAddrD isShift arith unD callOp mapO D.okc pickD buildable buildD placeD convD
set_option linter.unusedSimpArgs false
set_option maxHeartbeats 4000000

theorem app62L {mu : TypeId → Bool} {s : Nat} {blk : Nat → Blk} {xs ys : List Int} {tk tk' : Tok} {nx : Nat} (hmu : mu 62 = false) (ht : TokB blk tk 1 nx) (hl : xs.length + ys.length < 2 ^ 40) :
    builtinD E.T mu s blk .append [62, 62] [.frz (xs.map (D.int .i64)) tk, .frz (ys.map (D.int .i64)) tk'] = some { v := .frz ((xs ++ ys).map (D.int .i64)) (.own s 1), wr := tokWr tk s, rd := tokRd tk } := by
  have hall : ∀ z ∈ xs.map (D.int .i64) ++ ys.map (D.int .i64), z.cells.length = 1 := fun z hz => by
    rw [← List.map_append] at hz
    obtain ⟨y, _, rfl⟩ := List.mem_map.1 hz; rfl
  have hle : ((xs.map (D.int .i64)).length + (ys.map (D.int .i64)).length) * 8 * 2 ≤ maxAppend := by
    simp only [List.length_map, maxAppend]; omega
  have hsn : mapK (snap false blk snapDepth) (ys.map (D.int .i64)) = some (ys.map (D.int .i64), []) := mapK_map ys fun x _ => rfl
  rcases ht with rfl | ⟨o, rfl, h2, h3⟩
  · simp only [builtinD, ok_62, desc_62, if_true, appendD, elem_62, elemsD, hmu, Bool.false_eq_true, if_false, hsn, size_3, bytes_3, kills, List.map_nil, List.append_nil, List.nil_append]
    rw [if_pos ⟨hall, hle, by decide, by decide⟩]
    simp [tokWr, tokRd]
  · simp only [builtinD, ok_62, desc_62, if_true, appendD, elem_62, elemsD, hmu, Bool.false_eq_true, if_false, hsn, size_3, bytes_3, kills, List.map_nil, List.append_nil, List.nil_append]
    rw [if_pos ⟨hall, hle, by decide, by decide⟩]
    simp only [if_true, h2]
    simp [tokWr, tokRd]

/-! ### Access, Order -/

theorem snap_words (kp : Bool) (blk : Nat → Blk) (n : Nat) (l : List (List Nat)) (tk : Tok) : snap kp blk (n + 3) (.frz (l.map wordD) tk) = some (.frz (l.map wordD) (tk.fade kp), []) := by
  show (match mapK (snap false blk (n + 2)) (l.map wordD) with | some (ys, k) => some (D.frz ys (tk.fade kp), k) | none => none) = _
  rw [mapK_map l fun x _ => by rw [wordD, snap_word]; rfl]
theorem snap_bools (kp : Bool) (blk : Nat → Blk) (n : Nat) (l : List Bool) (tk : Tok) : snap kp blk (n + 2) (.frz (l.map D.bool) tk) = some (.frz (l.map D.bool) (tk.fade kp), []) := by
  show (match mapK (snap false blk (n + 1)) (l.map D.bool) with | some (ys, k) => some (D.frz ys (tk.fade kp), k) | none => none) = _
  rw [mapK_map l fun x _ => rfl]

theorem spec71 {m : M} (hv : Valid m) : ∃ j, (lev m 0 j).more = [] ∧ j < 2 ^ 30 ∧ bodyR 71 [encM m] = some (.tup [.frz ((lev m 0 j).l.map wordD) .exact, .frz ((lev m 0 j).is.map D.bool) .exact]) := by
  obtain ⟨j, hm, hj, hb⟩ := spec98 hv hv.r1
  refine ⟨j, hm, hj, ?_⟩
  have call : ∀ h, callI E (.fn 98 []) [.agg [.int .i64 m.ins, .int .i64 m.outs, .frz (m.rows.map rowD) .unk], .int .i64 0] h = some (.tup [.frz ((lev m 0 j).l.map wordD) .exact, .frz ((lev m 0 j).is.map D.bool) .exact], h, {}) := fun h =>
    call_pure (by decide) (snaps2 (snap_encM _ _ 4 m) rfl) hb
  refine bodyR_V (run71 _ _ (by simp)) ?_
  unfold b71
  refine .then xr71_0 (by simp [o71_0, builtinD, lenD, pD, argA, encM]; rfl) ?_
  refine .then xr71_1 (by simp [o71_1, builtinD, lenD, pD, argA, call]; rfl) (.ret ⟨_, by simp [resultsD, mapO, resultD, upd]; rfl, ?_⟩)
  show Option.map _ (match mapK (snap true _ 8) [.frz ((lev m 0 j).l.map wordD) .exact, .frz ((lev m 0 j).is.map D.bool) .exact] with | some (ys, k) => some (D.tup ys, k) | none => none) = _
  simp only [mapK, show ∀ blk, snap true blk 8 (.frz ((lev m 0 j).l.map wordD) .exact) = some (.frz ((lev m 0 j).l.map wordD) .exact, []) from fun blk => snap_words true blk 5 _ _, show ∀ blk, snap true blk 8 (.frz ((lev m 0 j).is.map D.bool) .exact) = some (.frz ((lev m 0 j).is.map D.bool) .exact, []) from fun blk => snap_bools true blk 6 _ _]
  rfl

def wordOf (l : List (List Nat)) (s : Int) : List Nat := l.getD s.toNat []
def before (l : List (List Nat)) (s : Nat) (o : Int) : Bool := lessM (wordOf l o) (wordOf l s)
def insM (l : List (List Nat)) (out : List Int) (s : Nat) : List Int := out.takeWhile (before l s) ++ [(s : Int)] ++ out.dropWhile (before l s)
def ordStep (l : List (List Nat)) (is : List Bool) (out : List Int) (s : Nat) : List Int := if is.getD s false then insM l out s else out
def ordN (l : List (List Nat)) (is : List Bool) (s : Nat) : List Int := (List.range s).foldl (ordStep l is) []
theorem ordN_succ (l : List (List Nat)) (is : List Bool) (s : Nat) : ordN l is (s + 1) = ordStep l is (ordN l is s) s := by simp [ordN, List.range_succ]

theorem while_take {α : Type} {p : α → Bool} : ∀ (l : List α) (k : Nat), k ≤ l.length → (∀ (i : Nat) (h : i < l.length), i < k → p l[i] = true) → (∀ h : k < l.length, p l[k] = false) → l.takeWhile p = l.take k ∧ l.dropWhile p = l.drop k
  | [], k, _, _, _ => by simp
  | a :: l, 0, _, _, h2 => by have := h2 (by simp); simp only [List.getElem_cons_zero] at this; simp [this]
  | a :: l, k + 1, hk, h1, h2 => by
    have ha := h1 0 (by simp) (by omega)
    simp only [List.getElem_cons_zero] at ha
    have ih := while_take l k (by simpa using hk) (fun i hi hik => by have := h1 (i + 1) (by simpa using hi) (by omega); simpa using this) (fun h => by have := h2 (by simpa using h); simpa using this)
    simp [ha, ih.1, ih.2]

theorem mu78 : E.pol.mu 78 62 = false := by decide

structure J78 (l : List (List Nat)) (is : List Bool) (out : List Int) (tk : Tok) (s : Nat) (blk : Nat → Blk) (nx : Nat) (k : Nat) (st : St) : Prop where
  le : k ≤ out.length
  h3 : st.A 3 = .frz (l.map wordD) .exact
  h4 : st.A 4 = .frz (is.map D.bool) .exact
  h5 : st.A 5 = .frz (out.map (D.int .i64)) tk
  h6 : st.A 6 = .int .i64 s
  h7 : st.A 7 = .int .i64 ((out.length - k : Nat) : Int)
  hb : st.h.blk = blk
  hn : nx ≤ st.h.next
  pre : ∀ (i : Nat) (h : i < out.length), i < out.length - k → before l s out[i] = true

theorem loop78b {l : List (List Nat)} {is : List Bool} {out : List Int} {tk : Tok} {s : Nat} {blk : Nat → Blk} {nx : Nat} (_hl : l.length ≤ 64) (hs : s < l.length) (ho : ∀ o ∈ out, 0 ≤ o ∧ o < l.length) (hol : out.length ≤ 64) (hw : ∀ w ∈ l, w.length < 2 ^ 39) {Q : Po}
    (hQ : ∀ st k, J78 l is out tk s blk nx k st → (∀ h : out.length - k < out.length, before l s out[out.length - k] = false) → Q.x 2 st) (k : Nat) (st : St) (hI : J78 l is out tk s blk nx k st) : V E 78 61 (.loop l78_1) st Q := by
  refine V.count (J78 l is out tk s blk nx) ?_ ?_ k st hI
  · rintro k ⟨A, h⟩ ⟨le, h3, h4, h5, h6, h7, hb, hn, pre⟩
    have hlt : out.length - (k + 1) < out.length := by omega
    generalize hi : out.length - (k + 1) = i at *
    have hk' : out.length - k = i + 1 := by omega
    have hwr : IntKind.i64.wrap ((i : Int) + 1) = ((i + 1 : Nat) : Int) := by rw [wrap_id] <;> omega
    have hoi := ho _ (List.getElem_mem hlt)
    simp only at h3 h4 h5 h6 h7 hb hn
    have ho1 := hoi.1
    have ho2 := hoi.2
    have hot : out[i].toNat < l.length := by omega
    have hwl : l[out[i].toNat].length < 2 ^ 39 := hw _ (List.getElem_mem hot)
    have hbe : before l s out[i] = lessM l[out[i].toNat] l[s] := by simp [before, wordOf, hot, hs]
    have call : ∀ h, callI E (.fn 102 []) [.frz (l[out[i].toNat].map natD) .unk, .frz (l[s].map natD) .unk] h = some (.int .i64 (if lessM l[out[i].toNat] l[s] then 1 else 0), h, {}) := fun h => call102 (by omega) h
    have hab : ∀ c : Bool, (((if c = true then 1 else 0 : Int) == 1) : Bool) = c := fun c => by cases c <;> rfl
    have hab2 : ∀ c : Bool, decide ((if c = true then 1 else 0 : Int) = 1) = c := fun c => by cases c <;> rfl
    have hltI : (i : Int) < out.length := by omega
    rw [cl78_1]
    refine .assoc (.then xr78_8 (by simp [o78_8, builtinD, lenD, pD, argA, h3, h5, h6, h7, hlt, hltI, ho1, ho2, hot, hs, wordD, call, hab, hab2]; rfl) ?_)
    refine .head (v := lessM l[out[i].toNat] l[s]) (by simp [opd, upd]) (fun q => ?_) (fun q => hQ _ (k + 1) ⟨le, ?_, ?_, ?_, ?_, ?_, ?_, ?_, ?_⟩ ?_)
    · refine .block (.reg xr78_9 (by simp [o78_9, builtinD, lenD, pD, argA, h7]; rfl) ⟨by omega, ?_, ?_, ?_, ?_, ?_, ?_, ?_, ?_⟩)
      · simp [upd, h3]
      · simp [upd, h4]
      · simp [upd, h5]
      · simp [upd, h6]
      · simp [upd, hk', hwr]
      · simp [upds, hb]
      · simp; omega
      · intro a ha hak
        rcases Nat.lt_or_ge a i with q1 | q1
        · exact pre a ha (by omega)
        · have : a = i := by omega
          subst this; rw [hbe]; exact q
    · simp [upd, h3]
    · simp [upd, h4]
    · simp [upd, h5]
    · simp [upd, h6]
    · simp [upd, hi, h7]
    · simp [upds, hb]
    · simp; omega
    · rw [hi]; exact pre
    · rw [hi]; intro _; rw [hbe]; exact q
  · rintro ⟨A, h⟩ ⟨le, h3, h4, h5, h6, h7, hb, hn, pre⟩
    simp only at h3 h4 h5 h6 h7 hb hn
    rw [cl78_1]
    refine .assoc (.then xr78_8 (by simp [o78_8, builtinD, lenD, pD, argA, h5, h7]; rfl) ?_)
    refine .head (v := false) (by simp [opd, upd]) (fun q => by cases q) (fun _ => hQ _ 0 ⟨by omega, ?_, ?_, ?_, ?_, ?_, ?_, ?_, pre⟩ (fun h => by omega))
    · simp [upd, h3]
    · simp [upd, h4]
    · simp [upd, h5]
    · simp [upd, h6]
    · simp [upd, h7]
    · simp [upds, hb]
    · simp; omega
end Go.Eng.E3

namespace Go.Eng.E3
open Go Go.Eng Go.Proofs
set_option maxRecDepth 100000
attribute [local simp] execR runOps stepOp wantedD evalOp opd upd St.put Eff.apply upds looseOk FP.free FP.idle apart Eff.fp ofVal loadD storeD partD setPart indexAddrD isShift arith unD callOp mapO D.okc pickD buildable buildD placeD convD
set_option linter.unusedSimpArgs false
set_option maxHeartbeats 4000000

theorem ins_mem {l : List (List Nat)} {out : List Int} {s : Nat} {o : Int} : o ∈ insM l out s ↔ o ∈ out ∨ o = s := by
  have h : ∀ x, x ∈ out ↔ x ∈ out.takeWhile (before l s) ∨ x ∈ out.dropWhile (before l s) := fun x => by
    conv => lhs; rw [← List.takeWhile_append_dropWhile (p := before l s) (l := out)]
    exact List.mem_append
  rw [h o]
  simp only [insM, List.mem_append, List.mem_singleton]
  constructor
  · rintro ((h | h) | h)
    · exact .inl (.inl h)
    · exact .inr h
    · exact .inl (.inr h)
  · rintro ((h | h) | h)
    · exact .inl (.inl h)
    · exact .inr h
    · exact .inl (.inr h)
theorem ins_len {l : List (List Nat)} {out : List Int} {s : Nat} : (insM l out s).length = out.length + 1 := by
  have := congrArg List.length (List.takeWhile_append_dropWhile (p := before l s) (l := out))
  simp only [List.length_append] at this
  simp only [insM, List.length_append, List.length_singleton]
  omega
theorem ord_ok (l : List (List Nat)) (is : List Bool) : ∀ s, (∀ o ∈ ordN l is s, 0 ≤ o ∧ o < s) ∧ (ordN l is s).length ≤ s
  | 0 => ⟨fun o ho => by simp [ordN] at ho, by simp [ordN]⟩
  | s + 1 => by
    obtain ⟨h1, h2⟩ := ord_ok l is s
    rw [ordN_succ, ordStep]
    split
    · refine ⟨fun o ho => ?_, by rw [ins_len]; omega⟩
      rcases ins_mem.1 ho with ho | rfl
      · have := h1 o ho; omega
      · omega
    · exact ⟨fun o ho => by have := h1 o ho; omega, by omega⟩

structure I78 (l : List (List Nat)) (is : List Bool) (k : Nat) (st : St) : Prop where
  le : k ≤ l.length
  h3 : st.A 3 = .frz (l.map wordD) .exact
  h4 : st.A 4 = .frz (is.map D.bool) .exact
  h5 : ∃ tk, st.A 5 = .frz ((ordN l is (l.length - k)).map (D.int .i64)) tk ∧ TokB st.h.blk tk 1 st.h.next ∧ (tk = .nil ↔ ordN l is (l.length - k) = [])
  h6 : st.A 6 = .int .i64 ((l.length - k : Nat) : Int)

theorem spec78 {m : M} (hv : Valid m) : ∃ j, (lev m 0 j).more = [] ∧ j < 2 ^ 30 ∧ bodyR 78 [encM m] = some (.frz ((ordN (lev m 0 j).l (lev m 0 j).is m.rows.length).map (D.int .i64)) (tkA (ordN (lev m 0 j).l (lev m 0 j).is m.rows.length))) := by
  obtain ⟨j, hm, hj, hb71⟩ := spec71 hv
  refine ⟨j, hm, hj, ?_⟩
  have lo := levOk hv hv.r1 j hj
  have hlw : ∀ w ∈ (lev m 0 j).l, w.length < 2 ^ 39 := by
    -- the words that are kept are words that were tried
    have key : ∀ i, i ≤ j → ∀ w ∈ (lev m 0 i).l, w.length ≤ i := by
      intro i
      induction i with
      | zero => intro _ w hw; simp [lev] at hw; simp [hw.2]
      | succ i ih =>
        intro hi w hw
        have lo' := levOk hv hv.r1 i (by omega)
        have : ∀ (ws : List (List Nat)) (p : PS), (∀ u ∈ ws, u.length = i) → (∀ u ∈ p.l, u.length ≤ i) → ∀ u ∈ (foldM m 0 p ws).l, u.length ≤ i := by
          intro ws
          induction ws with
          | nil => intro p _ hp; exact hp
          | cons v ws ihw =>
            intro p hws hp
            refine ihw (visitM m 0 p v) (fun u hu => hws u (List.mem_cons_of_mem _ hu)) (fun u hu => ?_)
            unfold visitM at hu
            simp only at hu
            split at hu
            · exact hp u hu
            · rcases List.mem_or_eq_of_mem_set hu with hu | rfl
              · exact hp u hu
              · exact Nat.le_of_eq (hws _ (List.mem_cons_self ..))
        have := this (lev m 0 i).more ⟨(lev m 0 i).l, (lev m 0 i).is, []⟩ (fun u hu => (lo'.ws u hu).2) (ih (by omega)) w hw
        omega
    intro w hw
    have := key j (Nat.le_refl _) w hw
    omega
  have r2 := hv.r2
  have hll := lo.ll
  have hil := lo.il
  have call : ∀ h, callI E (.fn 71 []) [.agg [.int .i64 m.ins, .int .i64 m.outs, .frz (m.rows.map rowD) .unk]] h = some (.tup [.frz ((lev m 0 j).l.map wordD) .exact, .frz ((lev m 0 j).is.map D.bool) .exact], h, {}) := fun h =>
    call_pure (by decide) (snaps1 (snap_encM _ _ 4 m)) hb71
  generalize (lev m 0 j).l = l at *
  generalize (lev m 0 j).is = is at *
  have r2' : l.length ≤ 64 := by omega
  have hil' : is.length = l.length := by omega
  rw [← hll]
  refine bodyR_V (run78 _ _ (by simp)) ?_
  unfold b78
  refine .then xr78_0 (by simp [o78_0, builtinD, lenD, pD, argA, encM]; rfl) ?_
  refine .then xr78_1 (by simp [o78_1, builtinD, lenD, pD, argA, call]; rfl) ?_
  refine .then xr78_2 (by simp [o78_2, builtinD, lenD, pD, argA]; rfl) ?_
  refine .assoc (.then xr78_3 (by simp [o78_3, builtinD, lenD, pD, argA]; rfl) ?_)
  refine .seq (.block (V.count (I78 l is) ?_ ?_ l.length _ ⟨Nat.le_refl _, by simp [upd], by simp [upd], ⟨.nil, by simp [upd, ordN], .inl rfl, by simp [ordN]⟩, by simp [upd]⟩))
  · rintro k ⟨A, h⟩ ⟨le, h3, h4, ⟨tk, h5, ht, htn⟩, h6⟩
    have hlt : l.length - (k + 1) < l.length := by omega
    generalize hi : l.length - (k + 1) = s at *
    have hk' : l.length - k = s + 1 := by omega
    have hwr : IntKind.i64.wrap ((s : Int) + 1) = ((s + 1 : Nat) : Int) := by rw [wrap_id] <;> omega
    have hok := ord_ok l is s
    have hst := ordN_succ l is s
    generalize ordN l is s = out at *
    have hsi : s < is.length := by omega
    have hgd : is.getD s false = is[s] := by simp [hsi]
    simp only at h3 h4 h5 h6 ht
    rw [cl78_0]
    refine .assoc (.then xr78_4 (by simp [o78_4, builtinD, lenD, pD, argA, h3, h6]; rfl) ?_)
    refine .head (by simp [opd, upd]; rfl) (fun _ => ?_) (fun hf => by simp [hlt] at hf)
    have hltI : (s : Int) < is.length := by omega
    cases c : is[s] with
    | false =>
      refine .seq (.block (.assoc (.then xr78_6 (by simp [o78_6, builtinD, lenD, pD, argA, h4, h6, hsi, hltI, c]; rfl) ?_)))
      refine .seq (.cond (v := true) (by simp [opd, upd]) (fun _ => .exit ?_) (fun q => by cases q))
      show V E 78 61 r78_5 _ _
      have hns : ordStep l is out s = out := by simp only [ordStep, hgd, c]; rfl
      refine .reg xr78_5 (by simp [o78_5, builtinD, lenD, pD, argA, h6]; rfl) ⟨by omega, ?_, ?_, ⟨tk, ?_, ?_, ?_⟩, ?_⟩
      · simp [upd, h3]
      · simp [upd, h4]
      · rw [hk', hst, hns]; simp [upd, h5]
      · exact ht.mono (by simp; omega) (fun b _ hb => by simpa [upds] using hb)
      · rw [hk', hst, hns]; exact htn
      · simp [upd, hk', hwr]
    | true =>
      refine .seq (.block (.assoc (.then xr78_6 (by simp [o78_6, builtinD, lenD, pD, argA, h4, h6, hsi, hltI, c]; rfl) ?_)))
      refine .seq (.cond (v := false) (by simp [opd, upd]) (fun q => by cases q) (fun _ => .skip ?_))
      refine .then xr78_7 (by simp [o78_7, builtinD, lenD, pD, argA]; rfl) ?_
      refine .seq (.block (loop78b (l := l) (is := is) (out := out) (tk := tk) (s := s) (blk := h.blk) (nx := h.next) (by omega) hlt (fun o ho => by have := hok.1 o ho; omega) (by have := hok.2; omega) hlw ?_ out.length _ ⟨Nat.le_refl _, by simp [upd, h3], by simp [upd, h4], by simp [upd, h5], by simp [upd, h6], by simp [upd], by simp [upds], by simp; omega, fun i h hi => by omega⟩))
      rintro ⟨A1, h1⟩ k1 ⟨le1, g3, g4, g5, g6, g7, gb, gn, pre⟩ stop
      simp only at g3 g4 g5 g6 g7 gb gn
      have hk1 : out.length - k1 ≤ out.length := by omega
      generalize out.length - k1 = q at *
      obtain ⟨hq1, hq2⟩ := while_take (p := before l s) out q hk1 pre stop
      have hins : insM l out s = out.take q ++ [(s : Int)] ++ out.drop q := by rw [insM, hq1, hq2]
      have hns : ordStep l is out s = insM l out s := by simp only [ordStep, hgd, c, if_true]
      have htk1 : TokB h1.blk tk 1 h1.next := by rw [gb]; exact ht.mono gn (fun b _ hb => hb)
      have hcells : ∀ x ∈ out.map (D.int .i64), x.cells.length = 1 := fun x hx => by obtain ⟨y, _, rfl⟩ := List.mem_map.1 hx; rfl
      have hqi : (0 : Int) ≤ (q : Int) := by omega
      have hqi2 : (q : Int) ≤ out.length := by omega
      show V E 78 61 _ _ _
      refine .then xr78_10 (by simp [o78_10, builtinD, lenD, pD, argA]; rfl) ?_
      have hol : out.length ≤ 64 := by have := hok.2; omega
      obtain ⟨u, hu⟩ : ∃ u, out.take q = u := ⟨_, rfl⟩
      obtain ⟨v, hv'⟩ : ∃ v, out.drop q = v := ⟨_, rfl⟩
      have hul : u.length ≤ 64 := by rw [← hu]; simp; omega
      have hvl : v.length ≤ 64 := by rw [← hv']; simp; omega
      have hs1 : List.take q (List.map (D.int .i64) out) = u.map (D.int .i64) := by rw [← List.map_take, hu]
      have hs2 : List.drop q (List.map (D.int .i64) out) = v.map (D.int .i64) := by rw [← List.map_drop, hv']
      have hs3 : List.take out.length (List.map (D.int .i64) out) = out.map (D.int .i64) := List.take_of_length_le (by simp)
      rw [hu, hv'] at hins
      have ha1 : ∀ s blk tk', builtinD E.T (E.pol.mu 78) s blk .append [62, 62] [.frz [] .nil, .frz (u.map (D.int .i64)) tk'] = some { v := .frz (u.map (D.int .i64)) (.own s 1), wr := [(s, .tok)] } := fun s blk tk' => by
        have := app62L (mu := E.pol.mu 78) (s := s) (blk := blk) (xs := []) (ys := u) (tk := .nil) (tk' := tk') (nx := 0) mu78 (.inl rfl) (by simp; omega)
        simpa [tokWr, tokRd] using this
      have ha2 : ∀ s' o (blk : Nat → Blk), blk o = .tok → builtinD E.T (E.pol.mu 78) s' blk .append [62, 62] [.frz (u.map (D.int .i64)) (.own o 1), .frz [.int .i64 s] .exact] = some { v := .frz (u.map (D.int .i64) ++ [.int .i64 s]) (.own s' 1), wr := [(o, .dead), (s', .tok)], rd := [o] } := fun s' o blk ho => by
        have := app62L (mu := E.pol.mu 78) (s := s') (blk := blk) (xs := u) (ys := [(s : Int)]) (tk := .own o 1) (tk' := .exact) (nx := o + 1) mu78 (.inr ⟨o, rfl, ho, by omega⟩) (by simp; omega)
        simpa [tokWr, tokRd] using this
      have ha3 : ∀ s' o (blk : Nat → Blk) tk', blk o = .tok → builtinD E.T (E.pol.mu 78) s' blk .append [62, 62] [.frz (u.map (D.int .i64) ++ [.int .i64 s]) (.own o 1), .frz (v.map (D.int .i64)) tk'] = some { v := .frz (u.map (D.int .i64) ++ .int .i64 s :: v.map (D.int .i64)) (.own s' 1), wr := [(o, .dead), (s', .tok)], rd := [o] } := fun s' o blk tk' ho => by
        have := app62L (mu := E.pol.mu 78) (s := s') (blk := blk) (xs := u ++ [(s : Int)]) (ys := v) (tk := .own o 1) (tk' := tk') (nx := o + 1) mu78 (.inr ⟨o, rfl, ho, by omega⟩) (by simp; omega)
        simpa [tokWr, tokRd] using this
      have hb1 : ∀ x y : Nat, (h1.next + 1 + x = h1.next + 1 + y) = (x = y) := fun x y => by simp
      refine .then xr78_11 (by simp [o78_11, pD, argA, g5, g7, sliceD, boundsD, optInt, hqi, hqi2, hk1, hs1, hcells, ha1]; rfl) ?_
      refine .then xr78_12 (by simp [o78_12, pD, argA, g6, ha2, mu78, mapK, snapDepth, snap_int, kills]; rfl) ?_
      refine .reg xr78_13 (by simp [o78_13, pD, argA, g5, g7, sliceD, boundsD, optInt, hqi, hqi2, hk1, hs2, hs3, hcells, ha3]; rfl) ?_
      show V E 78 61 r78_5 _ _
      refine .reg xr78_5 (by simp [o78_5, builtinD, lenD, pD, argA, g6]; rfl) ⟨by omega, ?_, ?_, ⟨.own (h1.next + 1 + 6 + 5 + 4) 1, ?_, ?_, ?_⟩, ?_⟩
      · simp [upd, g3]
      · simp [upd, g4]
      · rw [hk', hst, hns, hins]; simp [upd]
      · exact .inr ⟨_, rfl, by simp [upd, upds], by simp <;> omega⟩
      · rw [hk', hst, hns, hins]; simp
      · simp [upd, hk', hwr]
  · rintro ⟨A, h⟩ ⟨le, h3, h4, ⟨tk, h5, ht, htn⟩, h6⟩
    simp only at h3 h4 h5 h6 ht
    rw [cl78_0]
    refine .assoc (.then xr78_4 (by simp [o78_4, builtinD, lenD, pD, argA, h3, h6]; rfl) ?_)
    refine .head (by simp [opd, upd]; rfl) (fun hf => by simp at hf) (fun _ => ?_)
    refine .then xr78_14 (by simp [o78_14, builtinD, lenD, pD, argA, h5]; rfl) (.ret ⟨_, by simp [resultsD, mapO, resultD, upd]; rfl, ?_⟩)
    rw [show snapDepth = 7 + 2 from rfl, snap_ints]
    have : Tok.fade true tk = tkA (ordN l is l.length) := by
      rw [Nat.sub_zero] at htn
      rcases ht with rfl | ⟨o, rfl, _, _⟩
      · rw [htn.1 rfl]; rfl
      · cases hq : ordN l is l.length with
        | nil => have := htn.2 hq; cases this
        | cons _ _ => rfl
    simp [this]
end Go.Eng.E3
