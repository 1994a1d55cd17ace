import Derived.Test.YtcogomacihefoaaKnE
import Derived.Test.YtcogomacihefoaaChecked
import Derived.KernelRfl
set_option linter.unusedVariables false
set_option linter.unusedSimpArgs false
set_option linter.unusedSectionVars false
set_option linter.deprecated false
namespace Go.Eng.E3
open Go Go.Eng Go.Proofs
set_option maxRecDepth 100000
def pol : Pol where
  pure g := !(g == 34 || g == 35 || g == 38 || g == 49 || g == 60 || g == 64 || g == 80 || g == 94 || g == 103 || g == 109 || g == 123 || g == 124 || g == 125 || g == 126 || g == 127 || g == 128 || g == 129 || g == 130 || g == 140 || g == 143 || g == 145 || g == 146 || g == 147 || g == 151 || g == 153 || g == 154 || g == 155)
  args g := g == 57 || g == 58
  keep _ := true
  mu g t := match g with
    | 10 => t == 32
    | 17 => t == 62
    | 30 => t == 32 || t == 72
    | 41 => t == 32 || t == 72
    | 49 => t == 32 || t == 72
    | 60 => t == 76
    | 61 => t == 123 || t == 127
    | 64 => t == 37
    | 67 => t == 32 || t == 62
    | 74 => t == 123 || t == 127
    | 79 => t == 123
    | 94 => t == 32 || t == 62 || t == 72
    | 96 => t == 76 || t == 123
    | 98 => t == 37 || t == 123
    | 117 => t == 123
    | 140 => t == 123
    | 152 => t == 62
    | _ => false
noncomputable def okAt (g : Nat) : Bool := match Try.prog.funcs[g]? with
  | some fn => fnOkB fn
  | none => true
end Go.Eng.E3
namespace Go.Eng.E3
open Go Go.Eng Go.Proofs
set_option maxRecDepth 100000
theorem chk0 : (List.range' 3 2).all okAt = true := by kernel_rfl
theorem chk1 : (List.range' 5 2).all okAt = true := by kernel_rfl
theorem chk2 : (List.range' 7 2).all okAt = true := by kernel_rfl
theorem chk3 : (List.range' 9 2).all okAt = true := by kernel_rfl
theorem chk4 : (List.range' 11 2).all okAt = true := by kernel_rfl
theorem chk5 : (List.range' 13 2).all okAt = true := by kernel_rfl
theorem chk6 : (List.range' 15 2).all okAt = true := by kernel_rfl
theorem chk7 : (List.range' 17 2).all okAt = true := by kernel_rfl
theorem chk8 : (List.range' 19 2).all okAt = true := by kernel_rfl
theorem chk9 : (List.range' 21 2).all okAt = true := by kernel_rfl
theorem chk10 : (List.range' 23 2).all okAt = true := by kernel_rfl
theorem chk11 : (List.range' 25 2).all okAt = true := by kernel_rfl
theorem chk12 : (List.range' 27 2).all okAt = true := by kernel_rfl
theorem chk13 : (List.range' 29 2).all okAt = true := by kernel_rfl
theorem chk14 : (List.range' 31 2).all okAt = true := by kernel_rfl
theorem chk15 : (List.range' 33 2).all okAt = true := by kernel_rfl
theorem chk16 : (List.range' 35 2).all okAt = true := by kernel_rfl
theorem chk17 : (List.range' 37 2).all okAt = true := by kernel_rfl
theorem chk18 : (List.range' 39 2).all okAt = true := by kernel_rfl
theorem chk19 : (List.range' 41 2).all okAt = true := by kernel_rfl
end Go.Eng.E3
namespace Go.Eng.E3
open Go Go.Eng Go.Proofs
set_option maxRecDepth 100000
theorem chk20 : (List.range' 43 2).all okAt = true := by kernel_rfl
theorem chk21 : (List.range' 45 2).all okAt = true := by kernel_rfl
theorem chk22 : (List.range' 47 2).all okAt = true := by kernel_rfl
theorem chk23 : (List.range' 49 2).all okAt = true := by kernel_rfl
theorem chk24 : (List.range' 51 2).all okAt = true := by kernel_rfl
theorem chk25 : (List.range' 53 2).all okAt = true := by kernel_rfl
theorem chk26 : (List.range' 55 2).all okAt = true := by kernel_rfl
theorem chk27 : (List.range' 57 2).all okAt = true := by kernel_rfl
theorem chk28 : (List.range' 59 2).all okAt = true := by kernel_rfl
theorem chk29 : (List.range' 61 2).all okAt = true := by kernel_rfl
theorem chk30 : (List.range' 63 2).all okAt = true := by kernel_rfl
theorem chk31 : (List.range' 65 2).all okAt = true := by kernel_rfl
theorem chk32 : (List.range' 67 2).all okAt = true := by kernel_rfl
theorem chk33 : (List.range' 69 2).all okAt = true := by kernel_rfl
theorem chk34 : (List.range' 71 2).all okAt = true := by kernel_rfl
theorem chk35 : (List.range' 73 2).all okAt = true := by kernel_rfl
theorem chk36 : (List.range' 75 2).all okAt = true := by kernel_rfl
theorem chk37 : (List.range' 77 2).all okAt = true := by kernel_rfl
theorem chk38 : (List.range' 79 2).all okAt = true := by kernel_rfl
end Go.Eng.E3
namespace Go.Eng.E3
open Go Go.Eng Go.Proofs
set_option maxRecDepth 100000
theorem chk39 : (List.range' 81 2).all okAt = true := by kernel_rfl
theorem chk40 : (List.range' 83 2).all okAt = true := by kernel_rfl
theorem chk41 : (List.range' 85 2).all okAt = true := by kernel_rfl
theorem chk42 : (List.range' 87 2).all okAt = true := by kernel_rfl
theorem chk43 : (List.range' 89 2).all okAt = true := by kernel_rfl
theorem chk44 : (List.range' 91 2).all okAt = true := by kernel_rfl
theorem chk45 : (List.range' 93 2).all okAt = true := by kernel_rfl
theorem chk46 : (List.range' 95 2).all okAt = true := by kernel_rfl
theorem chk47 : (List.range' 97 2).all okAt = true := by kernel_rfl
theorem chk48 : (List.range' 99 2).all okAt = true := by kernel_rfl
theorem chk49 : (List.range' 101 2).all okAt = true := by kernel_rfl
theorem chk50 : (List.range' 103 2).all okAt = true := by kernel_rfl
theorem chk51 : (List.range' 105 2).all okAt = true := by kernel_rfl
theorem chk52 : (List.range' 107 2).all okAt = true := by kernel_rfl
theorem chk53 : (List.range' 109 2).all okAt = true := by kernel_rfl
theorem chk54 : (List.range' 111 2).all okAt = true := by kernel_rfl
theorem chk55 : (List.range' 113 2).all okAt = true := by kernel_rfl
theorem chk56 : (List.range' 115 2).all okAt = true := by kernel_rfl
theorem chk57 : (List.range' 117 2).all okAt = true := by kernel_rfl
theorem chk58 : (List.range' 119 2).all okAt = true := by kernel_rfl
end Go.Eng.E3
namespace Go.Eng.E3
open Go Go.Eng Go.Proofs
set_option maxRecDepth 100000
theorem chk59 : (List.range' 121 2).all okAt = true := by kernel_rfl
theorem chk60 : (List.range' 123 2).all okAt = true := by kernel_rfl
theorem chk61 : (List.range' 125 2).all okAt = true := by kernel_rfl
theorem chk62 : (List.range' 127 2).all okAt = true := by kernel_rfl
theorem chk63 : (List.range' 129 2).all okAt = true := by kernel_rfl
theorem chk64 : (List.range' 131 2).all okAt = true := by kernel_rfl
theorem chk65 : (List.range' 133 2).all okAt = true := by kernel_rfl
theorem chk66 : (List.range' 135 2).all okAt = true := by kernel_rfl
theorem chk67 : (List.range' 137 2).all okAt = true := by kernel_rfl
theorem chk68 : (List.range' 139 2).all okAt = true := by kernel_rfl
theorem chk69 : (List.range' 141 2).all okAt = true := by kernel_rfl
theorem chk70 : (List.range' 143 2).all okAt = true := by kernel_rfl
theorem chk71 : (List.range' 145 2).all okAt = true := by kernel_rfl
theorem chk72 : (List.range' 147 2).all okAt = true := by kernel_rfl
theorem chk73 : (List.range' 149 2).all okAt = true := by kernel_rfl
theorem chk74 : (List.range' 151 2).all okAt = true := by kernel_rfl
theorem chk75 : (List.range' 153 2).all okAt = true := by kernel_rfl
theorem chk76 : (List.range' 155 2).all okAt = true := by kernel_rfl
end Go.Eng.E3
namespace Go.Eng.E3
open Go Go.Eng Go.Proofs
set_option maxRecDepth 100000
theorem okAt_all {g : Nat} (h1 : 3 ≤ g) (h2 : g < 157) : okAt g = true := by
  by_cases c0 : g < 5
  · exact List.all_eq_true.1 chk0 g (List.mem_range'.2 ⟨g - 3, by omega, by omega⟩)
  by_cases c1 : g < 7
  · exact List.all_eq_true.1 chk1 g (List.mem_range'.2 ⟨g - 5, by omega, by omega⟩)
  by_cases c2 : g < 9
  · exact List.all_eq_true.1 chk2 g (List.mem_range'.2 ⟨g - 7, by omega, by omega⟩)
  by_cases c3 : g < 11
  · exact List.all_eq_true.1 chk3 g (List.mem_range'.2 ⟨g - 9, by omega, by omega⟩)
  by_cases c4 : g < 13
  · exact List.all_eq_true.1 chk4 g (List.mem_range'.2 ⟨g - 11, by omega, by omega⟩)
  by_cases c5 : g < 15
  · exact List.all_eq_true.1 chk5 g (List.mem_range'.2 ⟨g - 13, by omega, by omega⟩)
  by_cases c6 : g < 17
  · exact List.all_eq_true.1 chk6 g (List.mem_range'.2 ⟨g - 15, by omega, by omega⟩)
  by_cases c7 : g < 19
  · exact List.all_eq_true.1 chk7 g (List.mem_range'.2 ⟨g - 17, by omega, by omega⟩)
  by_cases c8 : g < 21
  · exact List.all_eq_true.1 chk8 g (List.mem_range'.2 ⟨g - 19, by omega, by omega⟩)
  by_cases c9 : g < 23
  · exact List.all_eq_true.1 chk9 g (List.mem_range'.2 ⟨g - 21, by omega, by omega⟩)
  by_cases c10 : g < 25
  · exact List.all_eq_true.1 chk10 g (List.mem_range'.2 ⟨g - 23, by omega, by omega⟩)
  by_cases c11 : g < 27
  · exact List.all_eq_true.1 chk11 g (List.mem_range'.2 ⟨g - 25, by omega, by omega⟩)
  by_cases c12 : g < 29
  · exact List.all_eq_true.1 chk12 g (List.mem_range'.2 ⟨g - 27, by omega, by omega⟩)
  by_cases c13 : g < 31
  · exact List.all_eq_true.1 chk13 g (List.mem_range'.2 ⟨g - 29, by omega, by omega⟩)
  by_cases c14 : g < 33
  · exact List.all_eq_true.1 chk14 g (List.mem_range'.2 ⟨g - 31, by omega, by omega⟩)
  by_cases c15 : g < 35
  · exact List.all_eq_true.1 chk15 g (List.mem_range'.2 ⟨g - 33, by omega, by omega⟩)
  by_cases c16 : g < 37
  · exact List.all_eq_true.1 chk16 g (List.mem_range'.2 ⟨g - 35, by omega, by omega⟩)
  by_cases c17 : g < 39
  · exact List.all_eq_true.1 chk17 g (List.mem_range'.2 ⟨g - 37, by omega, by omega⟩)
  by_cases c18 : g < 41
  · exact List.all_eq_true.1 chk18 g (List.mem_range'.2 ⟨g - 39, by omega, by omega⟩)
  by_cases c19 : g < 43
  · exact List.all_eq_true.1 chk19 g (List.mem_range'.2 ⟨g - 41, by omega, by omega⟩)
  by_cases c20 : g < 45
  · exact List.all_eq_true.1 chk20 g (List.mem_range'.2 ⟨g - 43, by omega, by omega⟩)
  by_cases c21 : g < 47
  · exact List.all_eq_true.1 chk21 g (List.mem_range'.2 ⟨g - 45, by omega, by omega⟩)
  by_cases c22 : g < 49
  · exact List.all_eq_true.1 chk22 g (List.mem_range'.2 ⟨g - 47, by omega, by omega⟩)
  by_cases c23 : g < 51
  · exact List.all_eq_true.1 chk23 g (List.mem_range'.2 ⟨g - 49, by omega, by omega⟩)
  by_cases c24 : g < 53
  · exact List.all_eq_true.1 chk24 g (List.mem_range'.2 ⟨g - 51, by omega, by omega⟩)
  by_cases c25 : g < 55
  · exact List.all_eq_true.1 chk25 g (List.mem_range'.2 ⟨g - 53, by omega, by omega⟩)
  by_cases c26 : g < 57
  · exact List.all_eq_true.1 chk26 g (List.mem_range'.2 ⟨g - 55, by omega, by omega⟩)
  by_cases c27 : g < 59
  · exact List.all_eq_true.1 chk27 g (List.mem_range'.2 ⟨g - 57, by omega, by omega⟩)
  by_cases c28 : g < 61
  · exact List.all_eq_true.1 chk28 g (List.mem_range'.2 ⟨g - 59, by omega, by omega⟩)
  by_cases c29 : g < 63
  · exact List.all_eq_true.1 chk29 g (List.mem_range'.2 ⟨g - 61, by omega, by omega⟩)
  by_cases c30 : g < 65
  · exact List.all_eq_true.1 chk30 g (List.mem_range'.2 ⟨g - 63, by omega, by omega⟩)
  by_cases c31 : g < 67
  · exact List.all_eq_true.1 chk31 g (List.mem_range'.2 ⟨g - 65, by omega, by omega⟩)
  by_cases c32 : g < 69
  · exact List.all_eq_true.1 chk32 g (List.mem_range'.2 ⟨g - 67, by omega, by omega⟩)
  by_cases c33 : g < 71
  · exact List.all_eq_true.1 chk33 g (List.mem_range'.2 ⟨g - 69, by omega, by omega⟩)
  by_cases c34 : g < 73
  · exact List.all_eq_true.1 chk34 g (List.mem_range'.2 ⟨g - 71, by omega, by omega⟩)
  by_cases c35 : g < 75
  · exact List.all_eq_true.1 chk35 g (List.mem_range'.2 ⟨g - 73, by omega, by omega⟩)
  by_cases c36 : g < 77
  · exact List.all_eq_true.1 chk36 g (List.mem_range'.2 ⟨g - 75, by omega, by omega⟩)
  by_cases c37 : g < 79
  · exact List.all_eq_true.1 chk37 g (List.mem_range'.2 ⟨g - 77, by omega, by omega⟩)
  by_cases c38 : g < 81
  · exact List.all_eq_true.1 chk38 g (List.mem_range'.2 ⟨g - 79, by omega, by omega⟩)
  by_cases c39 : g < 83
  · exact List.all_eq_true.1 chk39 g (List.mem_range'.2 ⟨g - 81, by omega, by omega⟩)
  by_cases c40 : g < 85
  · exact List.all_eq_true.1 chk40 g (List.mem_range'.2 ⟨g - 83, by omega, by omega⟩)
  by_cases c41 : g < 87
  · exact List.all_eq_true.1 chk41 g (List.mem_range'.2 ⟨g - 85, by omega, by omega⟩)
  by_cases c42 : g < 89
  · exact List.all_eq_true.1 chk42 g (List.mem_range'.2 ⟨g - 87, by omega, by omega⟩)
  by_cases c43 : g < 91
  · exact List.all_eq_true.1 chk43 g (List.mem_range'.2 ⟨g - 89, by omega, by omega⟩)
  by_cases c44 : g < 93
  · exact List.all_eq_true.1 chk44 g (List.mem_range'.2 ⟨g - 91, by omega, by omega⟩)
  by_cases c45 : g < 95
  · exact List.all_eq_true.1 chk45 g (List.mem_range'.2 ⟨g - 93, by omega, by omega⟩)
  by_cases c46 : g < 97
  · exact List.all_eq_true.1 chk46 g (List.mem_range'.2 ⟨g - 95, by omega, by omega⟩)
  by_cases c47 : g < 99
  · exact List.all_eq_true.1 chk47 g (List.mem_range'.2 ⟨g - 97, by omega, by omega⟩)
  by_cases c48 : g < 101
  · exact List.all_eq_true.1 chk48 g (List.mem_range'.2 ⟨g - 99, by omega, by omega⟩)
  by_cases c49 : g < 103
  · exact List.all_eq_true.1 chk49 g (List.mem_range'.2 ⟨g - 101, by omega, by omega⟩)
  by_cases c50 : g < 105
  · exact List.all_eq_true.1 chk50 g (List.mem_range'.2 ⟨g - 103, by omega, by omega⟩)
  by_cases c51 : g < 107
  · exact List.all_eq_true.1 chk51 g (List.mem_range'.2 ⟨g - 105, by omega, by omega⟩)
  by_cases c52 : g < 109
  · exact List.all_eq_true.1 chk52 g (List.mem_range'.2 ⟨g - 107, by omega, by omega⟩)
  by_cases c53 : g < 111
  · exact List.all_eq_true.1 chk53 g (List.mem_range'.2 ⟨g - 109, by omega, by omega⟩)
  by_cases c54 : g < 113
  · exact List.all_eq_true.1 chk54 g (List.mem_range'.2 ⟨g - 111, by omega, by omega⟩)
  by_cases c55 : g < 115
  · exact List.all_eq_true.1 chk55 g (List.mem_range'.2 ⟨g - 113, by omega, by omega⟩)
  by_cases c56 : g < 117
  · exact List.all_eq_true.1 chk56 g (List.mem_range'.2 ⟨g - 115, by omega, by omega⟩)
  by_cases c57 : g < 119
  · exact List.all_eq_true.1 chk57 g (List.mem_range'.2 ⟨g - 117, by omega, by omega⟩)
  by_cases c58 : g < 121
  · exact List.all_eq_true.1 chk58 g (List.mem_range'.2 ⟨g - 119, by omega, by omega⟩)
  by_cases c59 : g < 123
  · exact List.all_eq_true.1 chk59 g (List.mem_range'.2 ⟨g - 121, by omega, by omega⟩)
  by_cases c60 : g < 125
  · exact List.all_eq_true.1 chk60 g (List.mem_range'.2 ⟨g - 123, by omega, by omega⟩)
  by_cases c61 : g < 127
  · exact List.all_eq_true.1 chk61 g (List.mem_range'.2 ⟨g - 125, by omega, by omega⟩)
  by_cases c62 : g < 129
  · exact List.all_eq_true.1 chk62 g (List.mem_range'.2 ⟨g - 127, by omega, by omega⟩)
  by_cases c63 : g < 131
  · exact List.all_eq_true.1 chk63 g (List.mem_range'.2 ⟨g - 129, by omega, by omega⟩)
  by_cases c64 : g < 133
  · exact List.all_eq_true.1 chk64 g (List.mem_range'.2 ⟨g - 131, by omega, by omega⟩)
  by_cases c65 : g < 135
  · exact List.all_eq_true.1 chk65 g (List.mem_range'.2 ⟨g - 133, by omega, by omega⟩)
  by_cases c66 : g < 137
  · exact List.all_eq_true.1 chk66 g (List.mem_range'.2 ⟨g - 135, by omega, by omega⟩)
  by_cases c67 : g < 139
  · exact List.all_eq_true.1 chk67 g (List.mem_range'.2 ⟨g - 137, by omega, by omega⟩)
  by_cases c68 : g < 141
  · exact List.all_eq_true.1 chk68 g (List.mem_range'.2 ⟨g - 139, by omega, by omega⟩)
  by_cases c69 : g < 143
  · exact List.all_eq_true.1 chk69 g (List.mem_range'.2 ⟨g - 141, by omega, by omega⟩)
  by_cases c70 : g < 145
  · exact List.all_eq_true.1 chk70 g (List.mem_range'.2 ⟨g - 143, by omega, by omega⟩)
  by_cases c71 : g < 147
  · exact List.all_eq_true.1 chk71 g (List.mem_range'.2 ⟨g - 145, by omega, by omega⟩)
  by_cases c72 : g < 149
  · exact List.all_eq_true.1 chk72 g (List.mem_range'.2 ⟨g - 147, by omega, by omega⟩)
  by_cases c73 : g < 151
  · exact List.all_eq_true.1 chk73 g (List.mem_range'.2 ⟨g - 149, by omega, by omega⟩)
  by_cases c74 : g < 153
  · exact List.all_eq_true.1 chk74 g (List.mem_range'.2 ⟨g - 151, by omega, by omega⟩)
  by_cases c75 : g < 155
  · exact List.all_eq_true.1 chk75 g (List.mem_range'.2 ⟨g - 153, by omega, by omega⟩)
  by_cases c76 : g < 157
  · exact List.all_eq_true.1 chk76 g (List.mem_range'.2 ⟨g - 155, by omega, by omega⟩)
  omega
noncomputable def E : Env where
  T := tabOf Try.prog
  fn g := bif Nat.ble 3 g && Nat.blt g 157 then Try.prog.funcs[g]? else none
  pol := pol
theorem envOK : EnvOK Try.prog E where
  tab := tok_tabOf _
  mix := by kernel_rfl
  fn g fn h := by
    have h' : (bif Nat.ble 3 g && Nat.blt g 157 then Try.prog.funcs[g]? else none) = some fn := h
    cases hb : Nat.ble 3 g && Nat.blt g 157 with
    | false => rw [hb] at h'; cases h'
    | true =>
      rw [hb] at h'
      have hf : Try.prog.funcs[g]? = some fn := h'
      simp only [Bool.and_eq_true, Nat.ble_eq, Nat.blt] at hb
      have hok := okAt_all hb.1 (by omega)
      unfold okAt at hok
      rw [hf] at hok
      simp only at hok
      rw [fnOkB_eq] at hok
      unfold fnOk at hok
      simp only [Bool.and_eq_true, Bool.not_eq_true'] at hok
      refine ⟨hf, hok.1, fun c hc => ?_⟩
      have := hok.2
      rw [hc] at this
      exact this
end Go.Eng.E3
namespace Go.Eng.E3
open Go Go.Eng Go.Proofs
set_option maxRecDepth 100000
abbrev Xr (g N : Nat) (c : Code) (sl : List Oper) (ps : List (Nat × Nat)) : Prop := ∀ s, execI E g N c s = (execR E (callI E) g sl ps s).map fun s' => (.normal, s')
@[simp] theorem ok_1 : E.T.ok 1 = true := by kernel_rfl
@[simp] theorem desc_1 : E.T.desc 1 = TypeDesc.func #[] #[] false := by kernel_rfl
@[simp] theorem size_1 : E.T.size 1 = 1 := by kernel_rfl
@[simp] theorem bytes_1 : E.T.bytes 1 = 8 := by kernel_rfl
@[simp] theorem zero_1 : E.T.zero 1 = .nilfn := by kernel_rfl
@[simp] theorem agg_1 : Tab.agg E.T 1 = false := by kernel_rfl
@[simp] theorem ok_2 : E.T.ok 2 = true := by kernel_rfl
@[simp] theorem desc_2 : E.T.desc 2 = TypeDesc.int IntKind.i64 := by kernel_rfl
@[simp] theorem size_2 : E.T.size 2 = 1 := by kernel_rfl
@[simp] theorem bytes_2 : E.T.bytes 2 = 8 := by kernel_rfl
@[simp] theorem zero_2 : E.T.zero 2 = .int .i64 0 := by kernel_rfl
@[simp] theorem agg_2 : Tab.agg E.T 2 = false := by kernel_rfl
@[simp] theorem ok_3 : E.T.ok 3 = true := by kernel_rfl
@[simp] theorem desc_3 : E.T.desc 3 = TypeDesc.int IntKind.i64 := by kernel_rfl
@[simp] theorem size_3 : E.T.size 3 = 1 := by kernel_rfl
@[simp] theorem bytes_3 : E.T.bytes 3 = 8 := by kernel_rfl
@[simp] theorem zero_3 : E.T.zero 3 = .int .i64 0 := by kernel_rfl
@[simp] theorem agg_3 : Tab.agg E.T 3 = false := by kernel_rfl
@[simp] theorem ok_4 : E.T.ok 4 = true := by kernel_rfl
@[simp] theorem desc_4 : E.T.desc 4 = TypeDesc.bool := by kernel_rfl
@[simp] theorem size_4 : E.T.size 4 = 1 := by kernel_rfl
@[simp] theorem bytes_4 : E.T.bytes 4 = 1 := by kernel_rfl
@[simp] theorem zero_4 : E.T.zero 4 = .bool false := by kernel_rfl
@[simp] theorem agg_4 : Tab.agg E.T 4 = false := by kernel_rfl
@[simp] theorem ok_5 : E.T.ok 5 = true := by kernel_rfl
@[simp] theorem desc_5 : E.T.desc 5 = TypeDesc.int IntKind.u8 := by kernel_rfl
@[simp] theorem size_5 : E.T.size 5 = 1 := by kernel_rfl
@[simp] theorem bytes_5 : E.T.bytes 5 = 1 := by kernel_rfl
@[simp] theorem zero_5 : E.T.zero 5 = .int .u8 0 := by kernel_rfl
@[simp] theorem agg_5 : Tab.agg E.T 5 = false := by kernel_rfl
@[simp] theorem ok_17 : E.T.ok 17 = true := by kernel_rfl
@[simp] theorem desc_17 : E.T.desc 17 = TypeDesc.pointer 232 := by kernel_rfl
@[simp] theorem size_17 : E.T.size 17 = 1 := by kernel_rfl
@[simp] theorem bytes_17 : E.T.bytes 17 = 8 := by kernel_rfl
@[simp] theorem zero_17 : E.T.zero 17 = .nilp := by kernel_rfl
@[simp] theorem agg_17 : Tab.agg E.T 17 = false := by kernel_rfl
@[simp] theorem ok_22 : E.T.ok 22 = true := by kernel_rfl
@[simp] theorem desc_22 : E.T.desc 22 = TypeDesc.slice 5 := by kernel_rfl
@[simp] theorem size_22 : E.T.size 22 = 1 := by kernel_rfl
@[simp] theorem bytes_22 : E.T.bytes 22 = 24 := by kernel_rfl
@[simp] theorem zero_22 : E.T.zero 22 = .frz [] .nil := by kernel_rfl
@[simp] theorem elem_22 : elemOf? E.T 22 = some 5 := by kernel_rfl
@[simp] theorem agg_22 : Tab.agg E.T 22 = false := by kernel_rfl
@[simp] theorem ok_23 : E.T.ok 23 = true := by kernel_rfl
@[simp] theorem desc_23 : E.T.desc 23 = TypeDesc.slice 77 := by kernel_rfl
@[simp] theorem size_23 : E.T.size 23 = 1 := by kernel_rfl
@[simp] theorem bytes_23 : E.T.bytes 23 = 24 := by kernel_rfl
@[simp] theorem zero_23 : E.T.zero 23 = .frz [] .nil := by kernel_rfl
@[simp] theorem elem_23 : elemOf? E.T 23 = some 77 := by kernel_rfl
@[simp] theorem agg_23 : Tab.agg E.T 23 = false := by kernel_rfl
@[simp] theorem ok_31 : E.T.ok 31 = true := by kernel_rfl
@[simp] theorem desc_31 : E.T.desc 31 = TypeDesc.array 2 5 := by kernel_rfl
@[simp] theorem size_31 : E.T.size 31 = 2 := by kernel_rfl
@[simp] theorem bytes_31 : E.T.bytes 31 = 2 := by kernel_rfl
@[simp] theorem zero_31 : E.T.zero 31 = .agg [.int .u8 0, .int .u8 0] := by kernel_rfl
@[simp] theorem arr_31 : arrOf? E.T 31 = some (2, 5) := by kernel_rfl
@[simp] theorem agg_31 : Tab.agg E.T 31 = true := by kernel_rfl
@[simp] theorem ok_32 : E.T.ok 32 = true := by kernel_rfl
@[simp] theorem desc_32 : E.T.desc 32 = TypeDesc.slice 72 := by kernel_rfl
@[simp] theorem size_32 : E.T.size 32 = 1 := by kernel_rfl
@[simp] theorem bytes_32 : E.T.bytes 32 = 24 := by kernel_rfl
@[simp] theorem zero_32 : E.T.zero 32 = .frz [] .nil := by kernel_rfl
@[simp] theorem elem_32 : elemOf? E.T 32 = some 72 := by kernel_rfl
@[simp] theorem agg_32 : Tab.agg E.T 32 = false := by kernel_rfl
@[simp] theorem ok_34 : E.T.ok 34 = true := by kernel_rfl
@[simp] theorem desc_34 : E.T.desc 34 = TypeDesc.struct #[{ name := "Inputs", type := 3, offset := 0, embedded := false, tag := "", pkgPath := "", byteOffset := 0 }, { name := "Outputs", type := 3, offset := 1, embedded := false, tag := "", pkgPath := "", byteOffset := 8 }, { name := "Rows", type := 32, offset := 2, embedded := false, tag := "", pkgPath := "", byteOffset := 16 }] := by kernel_rfl
@[simp] theorem size_34 : E.T.size 34 = 3 := by kernel_rfl
@[simp] theorem bytes_34 : E.T.bytes 34 = 40 := by kernel_rfl
@[simp] theorem zero_34 : E.T.zero 34 = .agg [.int .i64 0, .int .i64 0, .frz [] .nil] := by kernel_rfl
@[simp] theorem agg_34 : Tab.agg E.T 34 = true := by kernel_rfl
@[simp] theorem field_34_0 : fieldOf E.T 34 0 = some { name := "Inputs", type := 3, offset := 0, embedded := false, tag := "", pkgPath := "", byteOffset := 0 } := by kernel_rfl
@[simp] theorem field_34_1 : fieldOf E.T 34 1 = some { name := "Outputs", type := 3, offset := 1, embedded := false, tag := "", pkgPath := "", byteOffset := 8 } := by kernel_rfl
@[simp] theorem field_34_2 : fieldOf E.T 34 2 = some { name := "Rows", type := 32, offset := 2, embedded := false, tag := "", pkgPath := "", byteOffset := 16 } := by kernel_rfl
@[simp] theorem ok_37 : E.T.ok 37 = true := by kernel_rfl
@[simp] theorem desc_37 : E.T.desc 37 = TypeDesc.slice 62 := by kernel_rfl
@[simp] theorem size_37 : E.T.size 37 = 1 := by kernel_rfl
@[simp] theorem bytes_37 : E.T.bytes 37 = 24 := by kernel_rfl
@[simp] theorem zero_37 : E.T.zero 37 = .frz [] .nil := by kernel_rfl
@[simp] theorem elem_37 : elemOf? E.T 37 = some 62 := by kernel_rfl
@[simp] theorem agg_37 : Tab.agg E.T 37 = false := by kernel_rfl
@[simp] theorem ok_40 : E.T.ok 40 = true := by kernel_rfl
@[simp] theorem desc_40 : E.T.desc 40 = TypeDesc.int IntKind.i64 := by kernel_rfl
@[simp] theorem size_40 : E.T.size 40 = 1 := by kernel_rfl
@[simp] theorem bytes_40 : E.T.bytes 40 = 8 := by kernel_rfl
@[simp] theorem zero_40 : E.T.zero 40 = .int .i64 0 := by kernel_rfl
@[simp] theorem agg_40 : Tab.agg E.T 40 = false := by kernel_rfl
@[simp] theorem ok_48 : E.T.ok 48 = true := by kernel_rfl
@[simp] theorem desc_48 : E.T.desc 48 = TypeDesc.func #[34, 3] #[3] false := by kernel_rfl
@[simp] theorem size_48 : E.T.size 48 = 1 := by kernel_rfl
@[simp] theorem bytes_48 : E.T.bytes 48 = 8 := by kernel_rfl
@[simp] theorem zero_48 : E.T.zero 48 = .nilfn := by kernel_rfl
@[simp] theorem agg_48 : Tab.agg E.T 48 = false := by kernel_rfl
@[simp] theorem ok_49 : E.T.ok 49 = true := by kernel_rfl
@[simp] theorem desc_49 : E.T.desc 49 = TypeDesc.func #[] #[4] false := by kernel_rfl
@[simp] theorem size_49 : E.T.size 49 = 1 := by kernel_rfl
@[simp] theorem bytes_49 : E.T.bytes 49 = 8 := by kernel_rfl
@[simp] theorem zero_49 : E.T.zero 49 = .nilfn := by kernel_rfl
@[simp] theorem agg_49 : Tab.agg E.T 49 = false := by kernel_rfl
@[simp] theorem ok_51 : E.T.ok 51 = true := by kernel_rfl
@[simp] theorem desc_51 : E.T.desc 51 = TypeDesc.func #[27, 30, 31] #[4] false := by kernel_rfl
@[simp] theorem size_51 : E.T.size 51 = 1 := by kernel_rfl
@[simp] theorem bytes_51 : E.T.bytes 51 = 8 := by kernel_rfl
@[simp] theorem zero_51 : E.T.zero 51 = .nilfn := by kernel_rfl
@[simp] theorem agg_51 : Tab.agg E.T 51 = false := by kernel_rfl
@[simp] theorem ok_52 : E.T.ok 52 = true := by kernel_rfl
@[simp] theorem desc_52 : E.T.desc 52 = TypeDesc.struct #[{ name := "States", type := 5, offset := 0, embedded := false, tag := "", pkgPath := "", byteOffset := 0 }, { name := "Inputs", type := 5, offset := 1, embedded := false, tag := "", pkgPath := "", byteOffset := 1 }, { name := "Outputs", type := 5, offset := 2, embedded := false, tag := "", pkgPath := "", byteOffset := 2 }, { name := "Partial", type := 4, offset := 3, embedded := false, tag := "", pkgPath := "", byteOffset := 3 }, { name := "Edges", type := 23, offset := 4, embedded := false, tag := "", pkgPath := "", byteOffset := 8 }] := by kernel_rfl
@[simp] theorem size_52 : E.T.size 52 = 5 := by kernel_rfl
@[simp] theorem bytes_52 : E.T.bytes 52 = 32 := by kernel_rfl
@[simp] theorem zero_52 : E.T.zero 52 = .agg [.int .u8 0, .int .u8 0, .int .u8 0, .bool false, .frz [] .nil] := by kernel_rfl
@[simp] theorem agg_52 : Tab.agg E.T 52 = true := by kernel_rfl
@[simp] theorem field_52_0 : fieldOf E.T 52 0 = some { name := "States", type := 5, offset := 0, embedded := false, tag := "", pkgPath := "", byteOffset := 0 } := by kernel_rfl
@[simp] theorem field_52_1 : fieldOf E.T 52 1 = some { name := "Inputs", type := 5, offset := 1, embedded := false, tag := "", pkgPath := "", byteOffset := 1 } := by kernel_rfl
@[simp] theorem field_52_2 : fieldOf E.T 52 2 = some { name := "Outputs", type := 5, offset := 2, embedded := false, tag := "", pkgPath := "", byteOffset := 2 } := by kernel_rfl
@[simp] theorem field_52_3 : fieldOf E.T 52 3 = some { name := "Partial", type := 4, offset := 3, embedded := false, tag := "", pkgPath := "", byteOffset := 3 } := by kernel_rfl
@[simp] theorem field_52_4 : fieldOf E.T 52 4 = some { name := "Edges", type := 23, offset := 4, embedded := false, tag := "", pkgPath := "", byteOffset := 8 } := by kernel_rfl
@[simp] theorem ok_53 : E.T.ok 53 = true := by kernel_rfl
@[simp] theorem desc_53 : E.T.desc 53 = TypeDesc.struct #[{ name := "States", type := 5, offset := 0, embedded := false, tag := "", pkgPath := "", byteOffset := 0 }, { name := "Inputs", type := 5, offset := 1, embedded := false, tag := "", pkgPath := "", byteOffset := 1 }, { name := "Outputs", type := 5, offset := 2, embedded := false, tag := "", pkgPath := "", byteOffset := 2 }, { name := "Partial", type := 4, offset := 3, embedded := false, tag := "", pkgPath := "", byteOffset := 3 }, { name := "Edges", type := 23, offset := 4, embedded := false, tag := "", pkgPath := "", byteOffset := 8 }] := by kernel_rfl
@[simp] theorem size_53 : E.T.size 53 = 5 := by kernel_rfl
@[simp] theorem bytes_53 : E.T.bytes 53 = 32 := by kernel_rfl
@[simp] theorem zero_53 : E.T.zero 53 = .agg [.int .u8 0, .int .u8 0, .int .u8 0, .bool false, .frz [] .nil] := by kernel_rfl
@[simp] theorem agg_53 : Tab.agg E.T 53 = true := by kernel_rfl
@[simp] theorem field_53_0 : fieldOf E.T 53 0 = some { name := "States", type := 5, offset := 0, embedded := false, tag := "", pkgPath := "", byteOffset := 0 } := by kernel_rfl
@[simp] theorem field_53_1 : fieldOf E.T 53 1 = some { name := "Inputs", type := 5, offset := 1, embedded := false, tag := "", pkgPath := "", byteOffset := 1 } := by kernel_rfl
@[simp] theorem field_53_2 : fieldOf E.T 53 2 = some { name := "Outputs", type := 5, offset := 2, embedded := false, tag := "", pkgPath := "", byteOffset := 2 } := by kernel_rfl
@[simp] theorem field_53_3 : fieldOf E.T 53 3 = some { name := "Partial", type := 4, offset := 3, embedded := false, tag := "", pkgPath := "", byteOffset := 3 } := by kernel_rfl
@[simp] theorem field_53_4 : fieldOf E.T 53 4 = some { name := "Edges", type := 23, offset := 4, embedded := false, tag := "", pkgPath := "", byteOffset := 8 } := by kernel_rfl
@[simp] theorem ok_55 : E.T.ok 55 = true := by kernel_rfl
@[simp] theorem desc_55 : E.T.desc 55 = TypeDesc.struct #[{ name := "To", type := 3, offset := 0, embedded := false, tag := "", pkgPath := "", byteOffset := 0 }, { name := "Out", type := 3, offset := 1, embedded := false, tag := "", pkgPath := "", byteOffset := 8 }] := by kernel_rfl
@[simp] theorem size_55 : E.T.size 55 = 2 := by kernel_rfl
@[simp] theorem bytes_55 : E.T.bytes 55 = 16 := by kernel_rfl
@[simp] theorem zero_55 : E.T.zero 55 = .agg [.int .i64 0, .int .i64 0] := by kernel_rfl
@[simp] theorem agg_55 : Tab.agg E.T 55 = true := by kernel_rfl
@[simp] theorem field_55_0 : fieldOf E.T 55 0 = some { name := "To", type := 3, offset := 0, embedded := false, tag := "", pkgPath := "", byteOffset := 0 } := by kernel_rfl
@[simp] theorem field_55_1 : fieldOf E.T 55 1 = some { name := "Out", type := 3, offset := 1, embedded := false, tag := "", pkgPath := "", byteOffset := 8 } := by kernel_rfl
@[simp] theorem ok_57 : E.T.ok 57 = true := by kernel_rfl
@[simp] theorem desc_57 : E.T.desc 57 = TypeDesc.struct #[{ name := "M", type := 53, offset := 0, embedded := false, tag := "", pkgPath := "", byteOffset := 0 }, { name := "X", type := 53, offset := 5, embedded := false, tag := "", pkgPath := "", byteOffset := 32 }, { name := "Alike", type := 4, offset := 10, embedded := false, tag := "", pkgPath := "", byteOffset := 64 }, { name := "Swap", type := 31, offset := 11, embedded := false, tag := "", pkgPath := "", byteOffset := 65 }, { name := "Place", type := 31, offset := 13, embedded := false, tag := "", pkgPath := "", byteOffset := 67 }, { name := "To", type := 55, offset := 15, embedded := false, tag := "", pkgPath := "", byteOffset := 72 }] := by kernel_rfl
@[simp] theorem size_57 : E.T.size 57 = 17 := by kernel_rfl
@[simp] theorem bytes_57 : E.T.bytes 57 = 88 := by kernel_rfl
@[simp] theorem zero_57 : E.T.zero 57 = .agg [.int .u8 0, .int .u8 0, .int .u8 0, .bool false, .frz [] .nil, .int .u8 0, .int .u8 0, .int .u8 0, .bool false, .frz [] .nil, .bool false, .int .u8 0, .int .u8 0, .int .u8 0, .int .u8 0, .int .i64 0, .int .i64 0] := by kernel_rfl
@[simp] theorem agg_57 : Tab.agg E.T 57 = true := by kernel_rfl
@[simp] theorem field_57_0 : fieldOf E.T 57 0 = some { name := "M", type := 53, offset := 0, embedded := false, tag := "", pkgPath := "", byteOffset := 0 } := by kernel_rfl
@[simp] theorem field_57_1 : fieldOf E.T 57 1 = some { name := "X", type := 53, offset := 5, embedded := false, tag := "", pkgPath := "", byteOffset := 32 } := by kernel_rfl
@[simp] theorem field_57_2 : fieldOf E.T 57 2 = some { name := "Alike", type := 4, offset := 10, embedded := false, tag := "", pkgPath := "", byteOffset := 64 } := by kernel_rfl
@[simp] theorem field_57_3 : fieldOf E.T 57 3 = some { name := "Swap", type := 31, offset := 11, embedded := false, tag := "", pkgPath := "", byteOffset := 65 } := by kernel_rfl
@[simp] theorem field_57_4 : fieldOf E.T 57 4 = some { name := "Place", type := 31, offset := 13, embedded := false, tag := "", pkgPath := "", byteOffset := 67 } := by kernel_rfl
@[simp] theorem field_57_5 : fieldOf E.T 57 5 = some { name := "To", type := 55, offset := 15, embedded := false, tag := "", pkgPath := "", byteOffset := 72 } := by kernel_rfl
@[simp] theorem ok_59 : E.T.ok 59 = true := by kernel_rfl
@[simp] theorem desc_59 : E.T.desc 59 = TypeDesc.struct #[{ name := "Symbols", type := 22, offset := 0, embedded := false, tag := "", pkgPath := "", byteOffset := 0 }] := by kernel_rfl
@[simp] theorem size_59 : E.T.size 59 = 1 := by kernel_rfl
@[simp] theorem bytes_59 : E.T.bytes 59 = 24 := by kernel_rfl
@[simp] theorem zero_59 : E.T.zero 59 = .agg [.frz [] .nil] := by kernel_rfl
@[simp] theorem agg_59 : Tab.agg E.T 59 = true := by kernel_rfl
@[simp] theorem field_59_0 : fieldOf E.T 59 0 = some { name := "Symbols", type := 22, offset := 0, embedded := false, tag := "", pkgPath := "", byteOffset := 0 } := by kernel_rfl
@[simp] theorem ok_61 : E.T.ok 61 = true := by kernel_rfl
@[simp] theorem desc_61 : E.T.desc 61 = TypeDesc.func #[] #[34, 34] false := by kernel_rfl
@[simp] theorem size_61 : E.T.size 61 = 1 := by kernel_rfl
@[simp] theorem bytes_61 : E.T.bytes 61 = 8 := by kernel_rfl
@[simp] theorem zero_61 : E.T.zero 61 = .nilfn := by kernel_rfl
@[simp] theorem agg_61 : Tab.agg E.T 61 = false := by kernel_rfl
@[simp] theorem ok_62 : E.T.ok 62 = true := by kernel_rfl
@[simp] theorem desc_62 : E.T.desc 62 = TypeDesc.slice 3 := by kernel_rfl
@[simp] theorem size_62 : E.T.size 62 = 1 := by kernel_rfl
@[simp] theorem bytes_62 : E.T.bytes 62 = 24 := by kernel_rfl
@[simp] theorem zero_62 : E.T.zero 62 = .frz [] .nil := by kernel_rfl
@[simp] theorem elem_62 : elemOf? E.T 62 = some 3 := by kernel_rfl
@[simp] theorem agg_62 : Tab.agg E.T 62 = false := by kernel_rfl
@[simp] theorem ok_70 : E.T.ok 70 = true := by kernel_rfl
@[simp] theorem desc_70 : E.T.desc 70 = TypeDesc.array 2 34 := by kernel_rfl
@[simp] theorem size_70 : E.T.size 70 = 6 := by kernel_rfl
@[simp] theorem bytes_70 : E.T.bytes 70 = 80 := by kernel_rfl
@[simp] theorem zero_70 : E.T.zero 70 = .agg [.int .i64 0, .int .i64 0, .frz [] .nil, .int .i64 0, .int .i64 0, .frz [] .nil] := by kernel_rfl
@[simp] theorem arr_70 : arrOf? E.T 70 = some (2, 34) := by kernel_rfl
@[simp] theorem agg_70 : Tab.agg E.T 70 = true := by kernel_rfl
@[simp] theorem ok_72 : E.T.ok 72 = true := by kernel_rfl
@[simp] theorem desc_72 : E.T.desc 72 = TypeDesc.slice 55 := by kernel_rfl
@[simp] theorem size_72 : E.T.size 72 = 1 := by kernel_rfl
@[simp] theorem bytes_72 : E.T.bytes 72 = 24 := by kernel_rfl
@[simp] theorem zero_72 : E.T.zero 72 = .frz [] .nil := by kernel_rfl
@[simp] theorem elem_72 : elemOf? E.T 72 = some 55 := by kernel_rfl
@[simp] theorem agg_72 : Tab.agg E.T 72 = false := by kernel_rfl
@[simp] theorem ok_74 : E.T.ok 74 = true := by kernel_rfl
@[simp] theorem desc_74 : E.T.desc 74 = TypeDesc.func #[34, 34] #[62, 4, 40] false := by kernel_rfl
@[simp] theorem size_74 : E.T.size 74 = 1 := by kernel_rfl
@[simp] theorem bytes_74 : E.T.bytes 74 = 8 := by kernel_rfl
@[simp] theorem zero_74 : E.T.zero 74 = .nilfn := by kernel_rfl
@[simp] theorem agg_74 : Tab.agg E.T 74 = false := by kernel_rfl
@[simp] theorem ok_76 : E.T.ok 76 = true := by kernel_rfl
@[simp] theorem desc_76 : E.T.desc 76 = TypeDesc.slice 105 := by kernel_rfl
@[simp] theorem size_76 : E.T.size 76 = 1 := by kernel_rfl
@[simp] theorem bytes_76 : E.T.bytes 76 = 24 := by kernel_rfl
@[simp] theorem zero_76 : E.T.zero 76 = .frz [] .nil := by kernel_rfl
@[simp] theorem elem_76 : elemOf? E.T 76 = some 105 := by kernel_rfl
@[simp] theorem agg_76 : Tab.agg E.T 76 = false := by kernel_rfl
@[simp] theorem ok_77 : E.T.ok 77 = true := by kernel_rfl
@[simp] theorem desc_77 : E.T.desc 77 = TypeDesc.int IntKind.u16 := by kernel_rfl
@[simp] theorem size_77 : E.T.size 77 = 1 := by kernel_rfl
@[simp] theorem bytes_77 : E.T.bytes 77 = 2 := by kernel_rfl
@[simp] theorem zero_77 : E.T.zero 77 = .int .u16 0 := by kernel_rfl
@[simp] theorem agg_77 : Tab.agg E.T 77 = false := by kernel_rfl
@[simp] theorem ok_78 : E.T.ok 78 = true := by kernel_rfl
@[simp] theorem desc_78 : E.T.desc 78 = TypeDesc.func #[57] #[4] false := by kernel_rfl
@[simp] theorem size_78 : E.T.size 78 = 1 := by kernel_rfl
@[simp] theorem bytes_78 : E.T.bytes 78 = 8 := by kernel_rfl
@[simp] theorem zero_78 : E.T.zero 78 = .nilfn := by kernel_rfl
@[simp] theorem agg_78 : Tab.agg E.T 78 = false := by kernel_rfl
@[simp] theorem ok_79 : E.T.ok 79 = true := by kernel_rfl
@[simp] theorem desc_79 : E.T.desc 79 = TypeDesc.func #[57, 3] #[4] false := by kernel_rfl
@[simp] theorem size_79 : E.T.size 79 = 1 := by kernel_rfl
@[simp] theorem bytes_79 : E.T.bytes 79 = 8 := by kernel_rfl
@[simp] theorem zero_79 : E.T.zero 79 = .nilfn := by kernel_rfl
@[simp] theorem agg_79 : Tab.agg E.T 79 = false := by kernel_rfl
@[simp] theorem ok_81 : E.T.ok 81 = true := by kernel_rfl
@[simp] theorem desc_81 : E.T.desc 81 = TypeDesc.slice 31 := by kernel_rfl
@[simp] theorem size_81 : E.T.size 81 = 1 := by kernel_rfl
@[simp] theorem bytes_81 : E.T.bytes 81 = 24 := by kernel_rfl
@[simp] theorem zero_81 : E.T.zero 81 = .frz [] .nil := by kernel_rfl
@[simp] theorem elem_81 : elemOf? E.T 81 = some 31 := by kernel_rfl
@[simp] theorem agg_81 : Tab.agg E.T 81 = false := by kernel_rfl
@[simp] theorem ok_87 : E.T.ok 87 = true := by kernel_rfl
@[simp] theorem desc_87 : E.T.desc 87 = TypeDesc.func #[3] #[] false := by kernel_rfl
@[simp] theorem size_87 : E.T.size 87 = 1 := by kernel_rfl
@[simp] theorem bytes_87 : E.T.bytes 87 = 8 := by kernel_rfl
@[simp] theorem zero_87 : E.T.zero 87 = .nilfn := by kernel_rfl
@[simp] theorem agg_87 : Tab.agg E.T 87 = false := by kernel_rfl
@[simp] theorem ok_98 : E.T.ok 98 = true := by kernel_rfl
@[simp] theorem desc_98 : E.T.desc 98 = TypeDesc.func #[34] #[3] false := by kernel_rfl
@[simp] theorem size_98 : E.T.size 98 = 1 := by kernel_rfl
@[simp] theorem bytes_98 : E.T.bytes 98 = 8 := by kernel_rfl
@[simp] theorem zero_98 : E.T.zero 98 = .nilfn := by kernel_rfl
@[simp] theorem agg_98 : Tab.agg E.T 98 = false := by kernel_rfl
@[simp] theorem ok_105 : E.T.ok 105 = true := by kernel_rfl
@[simp] theorem desc_105 : E.T.desc 105 = TypeDesc.array 2 3 := by kernel_rfl
@[simp] theorem size_105 : E.T.size 105 = 2 := by kernel_rfl
@[simp] theorem bytes_105 : E.T.bytes 105 = 16 := by kernel_rfl
@[simp] theorem zero_105 : E.T.zero 105 = .agg [.int .i64 0, .int .i64 0] := by kernel_rfl
@[simp] theorem arr_105 : arrOf? E.T 105 = some (2, 3) := by kernel_rfl
@[simp] theorem agg_105 : Tab.agg E.T 105 = true := by kernel_rfl
@[simp] theorem ok_111 : E.T.ok 111 = true := by kernel_rfl
@[simp] theorem desc_111 : E.T.desc 111 = TypeDesc.map 105 4 := by kernel_rfl
@[simp] theorem size_111 : E.T.size 111 = 1 := by kernel_rfl
@[simp] theorem bytes_111 : E.T.bytes 111 = 8 := by kernel_rfl
@[simp] theorem zero_111 : E.T.zero 111 = .nilm := by kernel_rfl
@[simp] theorem map_111 : mapOf? E.T 111 = some (105, 4) := by kernel_rfl
@[simp] theorem agg_111 : Tab.agg E.T 111 = false := by kernel_rfl
@[simp] theorem ok_122 : E.T.ok 122 = true := by kernel_rfl
@[simp] theorem desc_122 : E.T.desc 122 = TypeDesc.func #[34, 34, 62] #[3] false := by kernel_rfl
@[simp] theorem size_122 : E.T.size 122 = 1 := by kernel_rfl
@[simp] theorem bytes_122 : E.T.bytes 122 = 8 := by kernel_rfl
@[simp] theorem zero_122 : E.T.zero 122 = .nilfn := by kernel_rfl
@[simp] theorem agg_122 : Tab.agg E.T 122 = false := by kernel_rfl
@[simp] theorem ok_123 : E.T.ok 123 = true := by kernel_rfl
@[simp] theorem desc_123 : E.T.desc 123 = TypeDesc.slice 4 := by kernel_rfl
@[simp] theorem size_123 : E.T.size 123 = 1 := by kernel_rfl
@[simp] theorem bytes_123 : E.T.bytes 123 = 24 := by kernel_rfl
@[simp] theorem zero_123 : E.T.zero 123 = .frz [] .nil := by kernel_rfl
@[simp] theorem elem_123 : elemOf? E.T 123 = some 4 := by kernel_rfl
@[simp] theorem agg_123 : Tab.agg E.T 123 = false := by kernel_rfl
@[simp] theorem ok_127 : E.T.ok 127 = true := by kernel_rfl
@[simp] theorem desc_127 : E.T.desc 127 = TypeDesc.slice 123 := by kernel_rfl
@[simp] theorem size_127 : E.T.size 127 = 1 := by kernel_rfl
@[simp] theorem bytes_127 : E.T.bytes 127 = 24 := by kernel_rfl
@[simp] theorem zero_127 : E.T.zero 127 = .frz [] .nil := by kernel_rfl
@[simp] theorem elem_127 : elemOf? E.T 127 = some 123 := by kernel_rfl
@[simp] theorem agg_127 : Tab.agg E.T 127 = false := by kernel_rfl
@[simp] theorem ok_139 : E.T.ok 139 = true := by kernel_rfl
@[simp] theorem desc_139 : E.T.desc 139 = TypeDesc.struct #[{ name := "at", type := 3, offset := 0, embedded := false, tag := "", pkgPath := "gauntlet/equals", byteOffset := 0 }, { name := "input", type := 3, offset := 1, embedded := false, tag := "", pkgPath := "gauntlet/equals", byteOffset := 8 }, { name := "x", type := 55, offset := 2, embedded := false, tag := "", pkgPath := "gauntlet/equals", byteOffset := 16 }, { name := "y", type := 55, offset := 4, embedded := false, tag := "", pkgPath := "gauntlet/equals", byteOffset := 32 }] := by kernel_rfl
@[simp] theorem size_139 : E.T.size 139 = 6 := by kernel_rfl
@[simp] theorem bytes_139 : E.T.bytes 139 = 48 := by kernel_rfl
@[simp] theorem zero_139 : E.T.zero 139 = .agg [.int .i64 0, .int .i64 0, .int .i64 0, .int .i64 0, .int .i64 0, .int .i64 0] := by kernel_rfl
@[simp] theorem agg_139 : Tab.agg E.T 139 = true := by kernel_rfl
@[simp] theorem field_139_0 : fieldOf E.T 139 0 = some { name := "at", type := 3, offset := 0, embedded := false, tag := "", pkgPath := "gauntlet/equals", byteOffset := 0 } := by kernel_rfl
@[simp] theorem field_139_1 : fieldOf E.T 139 1 = some { name := "input", type := 3, offset := 1, embedded := false, tag := "", pkgPath := "gauntlet/equals", byteOffset := 8 } := by kernel_rfl
@[simp] theorem field_139_2 : fieldOf E.T 139 2 = some { name := "x", type := 55, offset := 2, embedded := false, tag := "", pkgPath := "gauntlet/equals", byteOffset := 16 } := by kernel_rfl
@[simp] theorem field_139_3 : fieldOf E.T 139 3 = some { name := "y", type := 55, offset := 4, embedded := false, tag := "", pkgPath := "gauntlet/equals", byteOffset := 32 } := by kernel_rfl
@[simp] theorem ok_140 : E.T.ok 140 = true := by kernel_rfl
@[simp] theorem desc_140 : E.T.desc 140 = TypeDesc.slice 166 := by kernel_rfl
@[simp] theorem size_140 : E.T.size 140 = 1 := by kernel_rfl
@[simp] theorem bytes_140 : E.T.bytes 140 = 24 := by kernel_rfl
@[simp] theorem zero_140 : E.T.zero 140 = .frz [] .nil := by kernel_rfl
@[simp] theorem elem_140 : elemOf? E.T 140 = some 166 := by kernel_rfl
@[simp] theorem agg_140 : Tab.agg E.T 140 = false := by kernel_rfl
@[simp] theorem ok_160 : E.T.ok 160 = true := by kernel_rfl
@[simp] theorem desc_160 : E.T.desc 160 = TypeDesc.slice 40 := by kernel_rfl
@[simp] theorem size_160 : E.T.size 160 = 1 := by kernel_rfl
@[simp] theorem bytes_160 : E.T.bytes 160 = 24 := by kernel_rfl
@[simp] theorem zero_160 : E.T.zero 160 = .frz [] .nil := by kernel_rfl
@[simp] theorem elem_160 : elemOf? E.T 160 = some 40 := by kernel_rfl
@[simp] theorem agg_160 : Tab.agg E.T 160 = false := by kernel_rfl
@[simp] theorem ok_163 : E.T.ok 163 = true := by kernel_rfl
@[simp] theorem desc_163 : E.T.desc 163 = TypeDesc.func #[55] #[4] false := by kernel_rfl
@[simp] theorem size_163 : E.T.size 163 = 1 := by kernel_rfl
@[simp] theorem bytes_163 : E.T.bytes 163 = 8 := by kernel_rfl
@[simp] theorem zero_163 : E.T.zero 163 = .nilfn := by kernel_rfl
@[simp] theorem agg_163 : Tab.agg E.T 163 = false := by kernel_rfl
@[simp] theorem ok_166 : E.T.ok 166 = true := by kernel_rfl
@[simp] theorem desc_166 : E.T.desc 166 = TypeDesc.struct #[{ name := "pair", type := 105, offset := 0, embedded := false, tag := "", pkgPath := "gauntlet/equals", byteOffset := 0 }, { name := "from", type := 3, offset := 2, embedded := false, tag := "", pkgPath := "gauntlet/equals", byteOffset := 16 }, { name := "input", type := 3, offset := 3, embedded := false, tag := "", pkgPath := "gauntlet/equals", byteOffset := 24 }] := by kernel_rfl
@[simp] theorem size_166 : E.T.size 166 = 4 := by kernel_rfl
@[simp] theorem bytes_166 : E.T.bytes 166 = 32 := by kernel_rfl
@[simp] theorem zero_166 : E.T.zero 166 = .agg [.int .i64 0, .int .i64 0, .int .i64 0, .int .i64 0] := by kernel_rfl
@[simp] theorem agg_166 : Tab.agg E.T 166 = true := by kernel_rfl
@[simp] theorem field_166_0 : fieldOf E.T 166 0 = some { name := "pair", type := 105, offset := 0, embedded := false, tag := "", pkgPath := "gauntlet/equals", byteOffset := 0 } := by kernel_rfl
@[simp] theorem field_166_1 : fieldOf E.T 166 1 = some { name := "from", type := 3, offset := 2, embedded := false, tag := "", pkgPath := "gauntlet/equals", byteOffset := 16 } := by kernel_rfl
@[simp] theorem field_166_2 : fieldOf E.T 166 2 = some { name := "input", type := 3, offset := 3, embedded := false, tag := "", pkgPath := "gauntlet/equals", byteOffset := 24 } := by kernel_rfl
end Go.Eng.E3
namespace Go.Eng.E3
open Go Go.Eng Go.Proofs
set_option maxRecDepth 100000
noncomputable def r26_0 : Code := navF Try.f26 [0]
noncomputable def o26_0 : List Oper := [sop (some 3) (.box 34 (.tmp 0)) none,
    sop (some 4) (.box 34 (.tmp 1)) none,
    sop (some 6) (.assign (.const (.bool false))) none,
    sop (some 7) (.assign (.const (.int .i64 0))) none]
theorem xr26_0 : Xr 26 114 r26_0 o26_0 [] := execI_reg' (by kernel_rfl)
noncomputable def r26_1 : Code := navF Try.f26 [1, 0, 0]
noncomputable def o26_1 : List Oper := [sop (some 18) (.load 34 (.tmp 3)) none,
    sop (some 19) (.load 34 (.tmp 4)) none,
    sop (some 20) (.call { callee := (.value (.func 59)), args := #[(.tmp 18), (.tmp 19)], argTypes := #[34, 34] }) none,
    sop (some 8) (.assign (.tmp 20)) none]
theorem xr26_1 : Xr 26 114 r26_1 o26_1 [] := execI_reg' (by kernel_rfl)
noncomputable def r26_2 : Code := navF Try.f26 [1, 0, 1, 0]
noncomputable def o26_2 : List Oper := [sop (some 21) (.move (.tmp 8)) none,
    sop (some 22) (.binOp .neq 40 (.tmp 21) (.const (.int .i64 0)) 40) none]
theorem xr26_2 : Xr 26 114 r26_2 o26_2 [] := execI_reg' (by kernel_rfl)
noncomputable def r26_3 : Code := navF Try.f26 [1, 0, 1, 1, 0, 0]
noncomputable def r26_4 : Code := navF Try.f26 [1, 1, 0, 0]
noncomputable def o26_4 : List Oper := [sop (some 24) (.move (.tmp 2)) none,
    sop (some 25) (.call { callee := (.builtin .len), args := #[(.tmp 24)], argTypes := #[76] }) none,
    sop (some 26) (.binOp .gtr 3 (.tmp 25) (.const (.int .i64 4096)) 3) none]
theorem xr26_4 : Xr 26 114 r26_4 o26_4 [] := execI_reg' (by kernel_rfl)
noncomputable def r26_5 : Code := navF Try.f26 [1, 1, 0, 1, 0, 0]
noncomputable def o26_5 : List Oper := [sop (some 6) (.assign (.const (.bool false))) none,
    sop (some 7) (.assign (.const (.int .i64 3))) none]
theorem xr26_5 : Xr 26 114 r26_5 o26_5 [] := execI_reg' (by kernel_rfl)
noncomputable def r26_6 : Code := navF Try.f26 [1, 1, 1, 0]
noncomputable def o26_6 : List Oper := [sop (some 27) (.makeMap 111 none) none,
    sop (some 9) (.assign (.tmp 27)) none]
theorem xr26_6 : Xr 26 114 r26_6 o26_6 [] := execI_reg' (by kernel_rfl)
noncomputable def r26_7 : Code := navF Try.f26 [1, 1, 1, 1, 0, 0]
noncomputable def o26_7 : List Oper := [sop (some 28) (.move (.tmp 2)) none,
    sop (some 29) (.call { callee := (.builtin .len), args := #[(.tmp 28)], argTypes := #[76] }) none,
    sop (some 30) (.move (.const (.int .i64 0))) none]
theorem xr26_7 : Xr 26 114 r26_7 o26_7 [] := execI_reg' (by kernel_rfl)
noncomputable def l26_0 : Code := navF Try.f26 [1, 1, 1, 1, 0, 1, 0, 0]
noncomputable def r26_8 : Code := navF Try.f26 [1, 1, 1, 1, 0, 1, 0, 0, 0]
noncomputable def o26_8 : List Oper := [sop (some 31) (.binOp .lss 3 (.tmp 30) (.tmp 29) 3) none]
theorem xr26_8 : Xr 26 114 r26_8 o26_8 [] := execI_reg' (by kernel_rfl)
noncomputable def r26_9 : Code := navF Try.f26 [1, 1, 1, 1, 0, 1, 0, 0, 1, 1, 0, 0, 0]
noncomputable def o26_9 : List Oper := [sop (some 32) (.indexAddr 76 (.tmp 28) (.tmp 30)) none,
    sop (some 33) (.load 105 (.tmp 32)) none,
    sop (some 11) (.alloc 105) none,
    sop none (.store 105 (.tmp 11) (.tmp 33)) none]
theorem xr26_9 : Xr 26 114 r26_9 o26_9 [] := execI_reg' (by kernel_rfl)
noncomputable def r26_10 : Code := navF Try.f26 [1, 1, 1, 1, 0, 1, 0, 0, 1, 1, 0, 0, 1, 0, 0]
noncomputable def o26_10 : List Oper := [sop (some 34) (.indexAddr 105 (.tmp 11) (.const (.int .i64 0))) none,
    sop (some 35) (.load 3 (.tmp 34)) none,
    sop (some 36) (.indexAddr 105 (.tmp 11) (.const (.int .i64 1))) none,
    sop (some 37) (.load 3 (.tmp 36)) none,
    sop (some 38) (.call { callee := (.builtin .min), args := #[(.tmp 35), (.tmp 37)], argTypes := #[3, 3] }) none,
    sop (some 39) (.binOp .lss 3 (.tmp 38) (.const (.int .i64 0)) 3) none,
    sop (some 40) (.move (.tmp 39)) none,
    sop (some 41) (.indexAddr 105 (.tmp 11) (.const (.int .i64 0))) (some (6, false)),
    sop (some 42) (.load 3 (.tmp 41)) (some (6, false)),
    sop (some 43) (.fieldAddr 34 (.tmp 3) 2) (some (6, false)),
    sop (some 44) (.load 32 (.tmp 43)) (some (6, false)),
    sop (some 45) (.call { callee := (.builtin .len), args := #[(.tmp 44)], argTypes := #[32] }) (some (6, false)),
    sop (some 46) (.binOp .geq 3 (.tmp 42) (.tmp 45) 3) (some (6, false)),
    sop (some 47) (.pick (.tmp 40) (.const (.bool true)) (.tmp 46)) none,
    sop (some 48) (.move (.tmp 47)) none,
    sop (some 49) (.indexAddr 105 (.tmp 11) (.const (.int .i64 1))) (some (14, false)),
    sop (some 50) (.load 3 (.tmp 49)) (some (14, false)),
    sop (some 51) (.fieldAddr 34 (.tmp 4) 2) (some (14, false)),
    sop (some 52) (.load 32 (.tmp 51)) (some (14, false)),
    sop (some 53) (.call { callee := (.builtin .len), args := #[(.tmp 52)], argTypes := #[32] }) (some (14, false)),
    sop (some 54) (.binOp .geq 3 (.tmp 50) (.tmp 53) 3) (some (14, false)),
    sop (some 55) (.pick (.tmp 48) (.const (.bool true)) (.tmp 54)) none]
theorem xr26_10 : Xr 26 114 r26_10 o26_10 [] := execI_reg' (by kernel_rfl)
noncomputable def r26_11 : Code := navF Try.f26 [1, 1, 1, 1, 0, 1, 0, 0, 1, 1, 0, 0, 1, 0, 1, 0, 0]
noncomputable def r26_12 : Code := navF Try.f26 [1, 1, 1, 1, 0, 1, 0, 0, 1, 1, 0, 0, 1, 1]
noncomputable def o26_12 : List Oper := [sop (some 56) (.move (.tmp 9)) none,
    sop (some 57) (.load 105 (.tmp 11)) none,
    sop none (.mapUpdate 111 (.tmp 56) (.tmp 57) (.const (.bool true))) none]
theorem xr26_12 : Xr 26 114 r26_12 o26_12 [] := execI_reg' (by kernel_rfl)
noncomputable def r26_13 : Code := navF Try.f26 [1, 1, 1, 1, 0, 1, 0, 0, 1, 1, 1]
noncomputable def o26_13 : List Oper := [sop (some 58) (.binOp .add 3 (.tmp 30) (.const (.int .i64 1)) 3) none,
    sop (some 30) (.move (.tmp 58)) none]
theorem xr26_13 : Xr 26 114 r26_13 o26_13 [] := execI_reg' (by kernel_rfl)
theorem cl26_0 : l26_0 = (.seq r26_8 (.seq (.cond (.tmp 31) .skip (.exit 0)) (.seq (.block 1 (.seq r26_9 (.seq (.seq r26_10 (.cond (.tmp 55) (.seq r26_11 .ret) .skip)) r26_12))) r26_13))) := by kernel_rfl
noncomputable def r26_14 : Code := navF Try.f26 [1, 1, 1, 1, 1, 0]
noncomputable def o26_14 : List Oper := [sop (some 59) (.move (.tmp 9)) none,
    sop (some 60) (.build 105 #[]) none,
    sop (some 61) (.lookup 111 (.tmp 59) (.tmp 60) false) none,
    sop (some 12) (.assign (.tmp 61)) none]
theorem xr26_14 : Xr 26 114 r26_14 o26_14 [] := execI_reg' (by kernel_rfl)
noncomputable def r26_15 : Code := navF Try.f26 [1, 1, 1, 1, 1, 1, 0, 0]
noncomputable def o26_15 : List Oper := [sop (some 62) (.move (.tmp 2)) none,
    sop (some 63) (.call { callee := (.builtin .len), args := #[(.tmp 62)], argTypes := #[76] }) none,
    sop (some 64) (.move (.const (.int .i64 0))) none]
theorem xr26_15 : Xr 26 114 r26_15 o26_15 [] := execI_reg' (by kernel_rfl)
noncomputable def l26_1 : Code := navF Try.f26 [1, 1, 1, 1, 1, 1, 0, 1, 0, 0]
noncomputable def r26_16 : Code := navF Try.f26 [1, 1, 1, 1, 1, 1, 0, 1, 0, 0, 0]
noncomputable def o26_16 : List Oper := [sop (some 65) (.binOp .lss 3 (.tmp 64) (.tmp 63) 3) none]
theorem xr26_16 : Xr 26 114 r26_16 o26_16 [] := execI_reg' (by kernel_rfl)
noncomputable def r26_17 : Code := navF Try.f26 [1, 1, 1, 1, 1, 1, 0, 1, 0, 0, 1, 1, 0, 0, 0]
noncomputable def o26_17 : List Oper := [sop (some 66) (.indexAddr 76 (.tmp 62) (.tmp 64)) none,
    sop (some 67) (.load 105 (.tmp 66)) none,
    sop (some 14) (.alloc 105) none,
    sop none (.store 105 (.tmp 14) (.tmp 67)) none]
theorem xr26_17 : Xr 26 114 r26_17 o26_17 [] := execI_reg' (by kernel_rfl)
noncomputable def r26_18 : Code := navF Try.f26 [1, 1, 1, 1, 1, 1, 0, 1, 0, 0, 1, 1, 0, 0, 1, 0]
noncomputable def o26_18 : List Oper := [sop (some 68) (.fieldAddr 34 (.tmp 3) 2) none,
    sop (some 69) (.load 32 (.tmp 68)) none,
    sop (some 70) (.indexAddr 105 (.tmp 14) (.const (.int .i64 0))) none,
    sop (some 71) (.load 3 (.tmp 70)) none,
    sop (some 72) (.indexAddr 32 (.tmp 69) (.tmp 71)) none,
    sop (some 73) (.load 72 (.tmp 72)) none,
    sop (some 74) (.call { callee := (.builtin .len), args := #[(.tmp 73)], argTypes := #[72] }) none,
    sop (some 75) (.move (.const (.int .i64 0))) none]
theorem xr26_18 : Xr 26 114 r26_18 o26_18 [] := execI_reg' (by kernel_rfl)
noncomputable def l26_2 : Code := navF Try.f26 [1, 1, 1, 1, 1, 1, 0, 1, 0, 0, 1, 1, 0, 0, 1, 1, 0, 0]
noncomputable def r26_19 : Code := navF Try.f26 [1, 1, 1, 1, 1, 1, 0, 1, 0, 0, 1, 1, 0, 0, 1, 1, 0, 0, 0]
noncomputable def o26_19 : List Oper := [sop (some 76) (.binOp .lss 3 (.tmp 75) (.tmp 74) 3) none]
theorem xr26_19 : Xr 26 114 r26_19 o26_19 [] := execI_reg' (by kernel_rfl)
noncomputable def r26_20 : Code := navF Try.f26 [1, 1, 1, 1, 1, 1, 0, 1, 0, 0, 1, 1, 0, 0, 1, 1, 0, 0, 1, 1, 0, 0, 0]
noncomputable def o26_20 : List Oper := [sop (some 77) (.move (.tmp 75)) none,
    sop (some 78) (.indexAddr 72 (.tmp 73) (.tmp 75)) none,
    sop (some 79) (.load 55 (.tmp 78)) none,
    sop (some 16) (.alloc 55) none,
    sop (some 15) (.assign (.tmp 77)) none,
    sop none (.store 55 (.tmp 16) (.tmp 79)) none]
theorem xr26_20 : Xr 26 114 r26_20 o26_20 [] := execI_reg' (by kernel_rfl)
noncomputable def r26_21 : Code := navF Try.f26 [1, 1, 1, 1, 1, 1, 0, 1, 0, 0, 1, 1, 0, 0, 1, 1, 0, 0, 1, 1, 0, 0, 1, 0]
noncomputable def o26_21 : List Oper := [sop (some 80) (.fieldAddr 34 (.tmp 4) 2) none,
    sop (some 81) (.load 32 (.tmp 80)) none,
    sop (some 82) (.indexAddr 105 (.tmp 14) (.const (.int .i64 1))) none,
    sop (some 83) (.load 3 (.tmp 82)) none,
    sop (some 84) (.indexAddr 32 (.tmp 81) (.tmp 83)) none,
    sop (some 85) (.load 72 (.tmp 84)) none,
    sop (some 86) (.move (.tmp 15)) none,
    sop (some 87) (.indexAddr 72 (.tmp 85) (.tmp 86)) none,
    sop (some 88) (.load 55 (.tmp 87)) none,
    sop (some 17) (.alloc 55) none,
    sop none (.store 55 (.tmp 17) (.tmp 88)) none]
theorem xr26_21 : Xr 26 114 r26_21 o26_21 [] := execI_reg' (by kernel_rfl)
noncomputable def r26_22 : Code := navF Try.f26 [1, 1, 1, 1, 1, 1, 0, 1, 0, 0, 1, 1, 0, 0, 1, 1, 0, 0, 1, 1, 0, 0, 1, 1]
noncomputable def o26_22 : List Oper := [sop (some 89) (.move (.tmp 12)) none,
    sop (some 90) (.move (.tmp 89)) none,
    sop (some 91) (.fieldAddr 55 (.tmp 16) 1) (some (1, true)),
    sop (some 92) (.load 3 (.tmp 91)) (some (1, true)),
    sop (some 93) (.fieldAddr 55 (.tmp 17) 1) (some (1, true)),
    sop (some 94) (.load 3 (.tmp 93)) (some (1, true)),
    sop (some 95) (.binOp .eql 3 (.tmp 92) (.tmp 94) 3) (some (1, true)),
    sop (some 96) (.pick (.tmp 90) (.tmp 95) (.const (.bool false))) none,
    sop (some 97) (.move (.tmp 96)) none,
    sop (some 98) (.fieldAddr 55 (.tmp 16) 0) (some (8, true)),
    sop (some 99) (.load 3 (.tmp 98)) (some (8, true)),
    sop (some 100) (.binOp .eql 3 (.tmp 99) (.const (.int .i64 (-1))) 3) (some (8, true)),
    sop (some 101) (.move (.tmp 100)) (some (8, true)),
    sop (some 102) (.move (.tmp 9)) (some (12, false)),
    sop (some 103) (.fieldAddr 55 (.tmp 16) 0) (some (12, false)),
    sop (some 104) (.load 3 (.tmp 103)) (some (12, false)),
    sop (some 105) (.fieldAddr 55 (.tmp 17) 0) (some (12, false)),
    sop (some 106) (.load 3 (.tmp 105)) (some (12, false)),
    sop (some 107) (.build 105 #[(0, (.tmp 104)), (1, (.tmp 106))]) (some (12, false)),
    sop (some 108) (.lookup 111 (.tmp 102) (.tmp 107) false) (some (12, false)),
    sop (some 109) (.pick (.tmp 101) (.const (.bool true)) (.tmp 108)) (some (8, true)),
    sop (some 110) (.pick (.tmp 97) (.tmp 109) (.const (.bool false))) none,
    sop (some 12) (.assign (.tmp 110)) none]
theorem xr26_22 : Xr 26 114 r26_22 o26_22 [] := execI_reg' (by kernel_rfl)
noncomputable def r26_23 : Code := navF Try.f26 [1, 1, 1, 1, 1, 1, 0, 1, 0, 0, 1, 1, 0, 0, 1, 1, 0, 0, 1, 1, 1]
noncomputable def o26_23 : List Oper := [sop (some 111) (.binOp .add 3 (.tmp 75) (.const (.int .i64 1)) 3) none,
    sop (some 75) (.move (.tmp 111)) none]
theorem xr26_23 : Xr 26 114 r26_23 o26_23 [] := execI_reg' (by kernel_rfl)
theorem cl26_2 : l26_2 = (.seq r26_19 (.seq (.cond (.tmp 76) .skip (.exit 4)) (.seq (.block 5 (.seq r26_20 (.seq r26_21 r26_22))) r26_23))) := by kernel_rfl
noncomputable def r26_24 : Code := navF Try.f26 [1, 1, 1, 1, 1, 1, 0, 1, 0, 0, 1, 1, 1]
noncomputable def o26_24 : List Oper := [sop (some 112) (.binOp .add 3 (.tmp 64) (.const (.int .i64 1)) 3) none,
    sop (some 64) (.move (.tmp 112)) none]
theorem xr26_24 : Xr 26 114 r26_24 o26_24 [] := execI_reg' (by kernel_rfl)
theorem cl26_1 : l26_1 = (.seq r26_16 (.seq (.cond (.tmp 65) .skip (.exit 2)) (.seq (.block 3 (.seq r26_17 (.seq r26_18 (.block 4 (.loop l26_2))))) r26_24))) := by kernel_rfl
noncomputable def r26_25 : Code := navF Try.f26 [1, 1, 1, 1, 1, 1, 1, 0]
noncomputable def o26_25 : List Oper := [sop (some 113) (.move (.tmp 12)) none,
    sop (some 6) (.assign (.tmp 113)) none,
    sop (some 7) (.assign (.const (.int .i64 0))) none]
theorem xr26_25 : Xr 26 114 r26_25 o26_25 [] := execI_reg' (by kernel_rfl)
noncomputable def b26 : Code := (.seq r26_0 (.seq (.seq r26_1 (.seq r26_2 (.cond (.tmp 22) (.seq r26_3 .ret) .skip))) (.seq (.seq r26_4 (.cond (.tmp 26) (.seq r26_5 .ret) .skip)) (.seq r26_6 (.seq (.seq r26_7 (.block 0 (.loop l26_0))) (.seq r26_14 (.seq (.seq r26_15 (.block 2 (.loop l26_1))) (.seq r26_25 .ret))))))))
theorem body26 : Try.f26.body = some b26 := by kernel_rfl
theorem fn26 : E.fn 26 = some Try.f26 := by kernel_rfl
theorem run26 (args : List D) (h : H) (hl : args.length ≤ 114) : bodyI E 26 args h = resOf E [(.tmp 6), (.tmp 7)] (execI E 26 114 b26 ⟨argA args, h⟩) := bodyI_res fn26 body26 rfl rfl args h hl
noncomputable def r24_0 : Code := navF Try.f24 [0]
noncomputable def o24_0 : List Oper := [sop (some 4) (.alloc 55) none]
theorem xr24_0 : Xr 24 8 r24_0 o24_0 [] := execI_reg' (by kernel_rfl)
noncomputable def r24_1 : Code := navF Try.f24 [1, 0]
noncomputable def o24_1 : List Oper := [sop (some 5) (.move (.tmp 0)) none,
    sop (some 6) (.move (.tmp 1)) none,
    sop (some 7) (.build 55 #[(0, (.tmp 5)), (1, (.tmp 6))]) none,
    sop none (.store 55 (.tmp 4) (.tmp 7)) none]
theorem xr24_1 : Xr 24 8 r24_1 o24_1 [] := execI_reg' (by kernel_rfl)
noncomputable def b24 : Code := (.seq r24_0 (.seq r24_1 .ret))
theorem body24 : Try.f24.body = some b24 := by kernel_rfl
theorem fn24 : E.fn 24 = some Try.f24 := by kernel_rfl
theorem run24 (args : List D) (h : H) (hl : args.length ≤ 8) : bodyI E 24 args h = resOf E [(.cell 4 55)] (execI E 24 8 b24 ⟨argA args, h⟩) := bodyI_res fn24 body24 rfl rfl args h hl
noncomputable def r5_0 : Code := navF Try.f5 [0]
noncomputable def o5_0 : List Oper := [sop (some 0) (.assign (.const (.bool false))) none]
theorem xr5_0 : Xr 5 207 r5_0 o5_0 [] := execI_reg' (by kernel_rfl)
noncomputable def r5_1 : Code := navF Try.f5 [1, 0, 0]
noncomputable def o5_1 : List Oper := [sop (some 1) (.assign (.const (.int .i64 1))) none]
theorem xr5_1 : Xr 5 207 r5_1 o5_1 [] := execI_reg' (by kernel_rfl)
noncomputable def l5_0 : Code := navF Try.f5 [1, 0, 1, 0, 0]
noncomputable def r5_2 : Code := navF Try.f5 [1, 0, 1, 0, 0, 0, 0]
noncomputable def o5_2 : List Oper := [sop (some 19) (.move (.tmp 1)) none,
    sop (some 20) (.binOp .lss 3 (.tmp 19) (.const (.int .i64 64)) 3) none]
theorem xr5_2 : Xr 5 207 r5_2 o5_2 [] := execI_reg' (by kernel_rfl)
noncomputable def r5_4 : Code := navF Try.f5 [1, 0, 1, 0, 0, 1, 0, 0, 0]
noncomputable def o5_4 : List Oper := [sop (some 2) (.alloc 70) none]
theorem xr5_4 : Xr 5 207 r5_4 o5_4 [] := execI_reg' (by kernel_rfl)
noncomputable def r5_5 : Code := navF Try.f5 [1, 0, 1, 0, 0, 1, 0, 0, 1, 0, 0]
noncomputable def o5_5 : List Oper := [sop (some 3) (.assign (.const (.int .i64 0))) none]
theorem xr5_5 : Xr 5 207 r5_5 o5_5 [] := execI_reg' (by kernel_rfl)
noncomputable def l5_1 : Code := navF Try.f5 [1, 0, 1, 0, 0, 1, 0, 0, 1, 0, 1, 0, 0]
noncomputable def r5_6 : Code := navF Try.f5 [1, 0, 1, 0, 0, 1, 0, 0, 1, 0, 1, 0, 0, 0, 0]
noncomputable def o5_6 : List Oper := [sop (some 23) (.move (.tmp 3)) none,
    sop (some 24) (.binOp .lss 3 (.tmp 23) (.const (.int .i64 2)) 3) none]
theorem xr5_6 : Xr 5 207 r5_6 o5_6 [] := execI_reg' (by kernel_rfl)
noncomputable def r5_8 : Code := navF Try.f5 [1, 0, 1, 0, 0, 1, 0, 0, 1, 0, 1, 0, 0, 1, 0, 0, 0]
noncomputable def o5_8 : List Oper := [sop (some 27) (.move (.tmp 3)) none,
    sop (some 28) (.build 34 #[(0, (.const (.int .i64 1))), (1, (.const (.int .i64 2)))]) none,
    sop (some 29) (.indexAddr 70 (.tmp 2) (.tmp 27)) none,
    sop none (.store 34 (.tmp 29) (.tmp 28)) none]
theorem xr5_8 : Xr 5 207 r5_8 o5_8 [] := execI_reg' (by kernel_rfl)
noncomputable def r5_9 : Code := navF Try.f5 [1, 0, 1, 0, 0, 1, 0, 0, 1, 0, 1, 0, 0, 1, 0, 0, 1, 0]
noncomputable def o5_9 : List Oper := [sop (some 4) (.assign (.const (.int .i64 0))) none]
theorem xr5_9 : Xr 5 207 r5_9 o5_9 [] := execI_reg' (by kernel_rfl)
noncomputable def l5_2 : Code := navF Try.f5 [1, 0, 1, 0, 0, 1, 0, 0, 1, 0, 1, 0, 0, 1, 0, 0, 1, 1, 0, 0]
noncomputable def r5_10 : Code := navF Try.f5 [1, 0, 1, 0, 0, 1, 0, 0, 1, 0, 1, 0, 0, 1, 0, 0, 1, 1, 0, 0, 0, 0]
noncomputable def o5_10 : List Oper := [sop (some 30) (.move (.tmp 4)) none,
    sop (some 31) (.move (.tmp 1)) none,
    sop (some 32) (.move (.tmp 3)) none,
    sop (some 33) (.binOp .add 3 (.tmp 31) (.tmp 32) 3) none,
    sop (some 34) (.binOp .lss 3 (.tmp 30) (.tmp 33) 3) none]
theorem xr5_10 : Xr 5 207 r5_10 o5_10 [] := execI_reg' (by kernel_rfl)
noncomputable def r5_12 : Code := navF Try.f5 [1, 0, 1, 0, 0, 1, 0, 0, 1, 0, 1, 0, 0, 1, 0, 0, 1, 1, 0, 0, 1, 0, 0]
noncomputable def o5_12 : List Oper := [sop (some 37) (.move (.tmp 3)) none,
    sop (some 38) (.move (.tmp 3)) none,
    sop (some 39) (.indexAddr 70 (.tmp 2) (.tmp 38)) none,
    sop (some 40) (.fieldAddr 34 (.tmp 39) 2) none,
    sop (some 41) (.load 32 (.tmp 40)) none,
    sop (some 42) (.move (.tmp 4)) none,
    sop (some 43) (.binOp .add 3 (.tmp 42) (.const (.int .i64 1)) 3) none,
    sop (some 44) (.move (.tmp 1)) none,
    sop (some 45) (.move (.tmp 3)) none,
    sop (some 46) (.binOp .add 3 (.tmp 44) (.tmp 45) 3) none,
    sop (some 47) (.binOp .rem 3 (.tmp 43) (.tmp 46) 3) none,
    sop (some 48) (.move (.tmp 4)) none,
    sop (some 49) (.binOp .add 3 (.tmp 48) (.const (.int .i64 1)) 3) none,
    sop (some 50) (.move (.tmp 1)) none,
    sop (some 51) (.move (.tmp 3)) none,
    sop (some 52) (.binOp .add 3 (.tmp 50) (.tmp 51) 3) none,
    sop (some 53) (.binOp .quo 3 (.tmp 49) (.tmp 52) 3) none,
    sop (some 54) (.call { callee := (.value (.func 24)), args := #[(.tmp 47), (.tmp 53)], argTypes := #[3, 3] }) none,
    sop (some 55) (.buildSlice 72 1 #[(0, (.tmp 54))]) none,
    sop (some 56) (.buildSlice 32 1 #[(0, (.tmp 55))]) none,
    sop (some 57) (.call { callee := (.builtin .append), args := #[(.tmp 41), (.tmp 56)], argTypes := #[32, 32] }) none,
    sop (some 58) (.indexAddr 70 (.tmp 2) (.tmp 37)) none,
    sop (some 59) (.fieldAddr 34 (.tmp 58) 2) none,
    sop none (.store 32 (.tmp 59) (.tmp 57)) none]
theorem xr5_12 : Xr 5 207 r5_12 o5_12 [(4, 17), (4, 18), (4, 19)] := execI_reg' (by kernel_rfl)
noncomputable def r5_11 : Code := navF Try.f5 [1, 0, 1, 0, 0, 1, 0, 0, 1, 0, 1, 0, 0, 1, 0, 0, 1, 1, 0, 0, 1, 1]
noncomputable def o5_11 : List Oper := [sop (some 35) (.move (.tmp 4)) none,
    sop (some 36) (.binOp .add 3 (.tmp 35) (.const (.int .i64 1)) 3) none,
    sop (some 4) (.assign (.tmp 36)) none]
theorem xr5_11 : Xr 5 207 r5_11 o5_11 [] := execI_reg' (by kernel_rfl)
theorem cl5_2 : l5_2 = (.seq (.seq r5_10 (.cond (.tmp 34) .skip (.exit 4))) (.seq (.block 5 r5_12) r5_11)) := by kernel_rfl
noncomputable def r5_7 : Code := navF Try.f5 [1, 0, 1, 0, 0, 1, 0, 0, 1, 0, 1, 0, 0, 1, 1]
noncomputable def o5_7 : List Oper := [sop (some 25) (.move (.tmp 3)) none,
    sop (some 26) (.binOp .add 3 (.tmp 25) (.const (.int .i64 1)) 3) none,
    sop (some 3) (.assign (.tmp 26)) none]
theorem xr5_7 : Xr 5 207 r5_7 o5_7 [] := execI_reg' (by kernel_rfl)
theorem cl5_1 : l5_1 = (.seq (.seq r5_6 (.cond (.tmp 24) .skip (.exit 2))) (.seq (.block 3 (.seq r5_8 (.seq r5_9 (.block 4 (.loop l5_2))))) r5_7)) := by kernel_rfl
noncomputable def r5_13 : Code := navF Try.f5 [1, 0, 1, 0, 0, 1, 0, 0, 1, 1, 0]
noncomputable def o5_13 : List Oper := [sop (some 61) (.indexAddr 70 (.tmp 2) (.const (.int .i64 0))) none,
    sop (some 62) (.load 34 (.tmp 61)) none,
    sop (some 63) (.indexAddr 70 (.tmp 2) (.const (.int .i64 1))) none,
    sop (some 64) (.load 34 (.tmp 63)) none,
    sop (some 65) (.call { callee := (.value (.func 25)), args := #[(.tmp 62), (.tmp 64)], argTypes := #[34, 34] }) none,
    sop (some 60) (.move (.tmp 65)) none,
    sop (some 66) (.extract (.tmp 60) 0) none,
    sop (some 67) (.extract (.tmp 60) 1) none,
    sop (some 68) (.extract (.tmp 60) 2) none,
    sop (some 5) (.assign (.tmp 66)) none,
    sop (some 6) (.assign (.tmp 67)) none,
    sop (some 7) (.assign (.tmp 68)) none]
theorem xr5_13 : Xr 5 207 r5_13 o5_13 [] := execI_reg' (by kernel_rfl)
noncomputable def r5_14 : Code := navF Try.f5 [1, 0, 1, 0, 0, 1, 0, 0, 1, 1, 1, 0]
noncomputable def o5_14 : List Oper := [sop (some 69) (.move (.tmp 7)) none,
    sop (some 70) (.binOp .neq 40 (.tmp 69) (.const (.int .i64 0)) 40) none,
    sop (some 71) (.move (.tmp 70)) none,
    sop (some 72) (.move (.tmp 6)) (some (2, false)),
    sop (some 73) (.unOp .not 4 (.tmp 72)) (some (2, false)),
    sop (some 74) (.pick (.tmp 71) (.const (.bool true)) (.tmp 73)) none,
    sop (some 75) (.move (.tmp 74)) none,
    sop (some 76) (.move (.tmp 5)) (some (6, false)),
    sop (some 77) (.call { callee := (.builtin .len), args := #[(.tmp 76)], argTypes := #[62] }) (some (6, false)),
    sop (some 78) (.move (.tmp 1)) (some (6, false)),
    sop (some 79) (.binOp .neq 3 (.tmp 77) (.tmp 78) 3) (some (6, false)),
    sop (some 80) (.pick (.tmp 75) (.const (.bool true)) (.tmp 79)) none]
theorem xr5_14 : Xr 5 207 r5_14 o5_14 [] := execI_reg' (by kernel_rfl)
noncomputable def r5_15 : Code := navF Try.f5 [1, 0, 1, 0, 0, 1, 0, 0, 1, 1, 1, 1, 0, 0]
noncomputable def r5_3 : Code := navF Try.f5 [1, 0, 1, 0, 0, 1, 1]
noncomputable def o5_3 : List Oper := [sop (some 21) (.move (.tmp 1)) none,
    sop (some 22) (.binOp .add 3 (.tmp 21) (.const (.int .i64 1)) 3) none,
    sop (some 1) (.assign (.tmp 22)) none]
theorem xr5_3 : Xr 5 207 r5_3 o5_3 [] := execI_reg' (by kernel_rfl)
theorem cl5_0 : l5_0 = (.seq (.seq r5_2 (.cond (.tmp 20) .skip (.exit 0))) (.seq (.block 1 (.seq r5_4 (.seq (.seq r5_5 (.block 2 (.loop l5_1))) (.seq r5_13 (.seq r5_14 (.cond (.tmp 80) (.seq r5_15 .ret) .skip)))))) r5_3)) := by kernel_rfl
noncomputable def r5_16 : Code := navF Try.f5 [1, 1, 0]
noncomputable def o5_16 : List Oper := [sop (some 81) (.call { callee := (.value (.func 24)), args := #[(.const (.int .i64 0)), (.const (.int .i64 0))], argTypes := #[3, 3] }) none,
    sop (some 82) (.buildSlice 72 1 #[(0, (.tmp 81))]) none,
    sop (some 83) (.buildSlice 32 1 #[(0, (.tmp 82))]) none,
    sop (some 84) (.build 34 #[(0, (.const (.int .i64 1))), (1, (.const (.int .i64 1))), (2, (.tmp 83))]) none,
    sop (some 8) (.alloc 34) none,
    sop none (.store 34 (.tmp 8) (.tmp 84)) none]
theorem xr5_16 : Xr 5 207 r5_16 o5_16 [] := execI_reg' (by kernel_rfl)
noncomputable def r5_17 : Code := navF Try.f5 [1, 1, 1, 0]
noncomputable def o5_17 : List Oper := [sop (some 86) (.load 34 (.tmp 8)) none,
    sop (some 87) (.load 34 (.tmp 8)) none,
    sop (some 88) (.makeSlice 76 (.const (.int .i64 4096)) (.const (.int .i64 4096))) none,
    sop (some 89) (.call { callee := (.value (.func 26)), args := #[(.tmp 86), (.tmp 87), (.tmp 88)], argTypes := #[34, 34, 76] }) none,
    sop (some 85) (.move (.tmp 89)) none,
    sop (some 90) (.extract (.tmp 85) 0) none,
    sop (some 91) (.extract (.tmp 85) 1) none,
    sop (some 9) (.assign (.tmp 90)) none,
    sop (some 10) (.assign (.tmp 91)) none]
theorem xr5_17 : Xr 5 207 r5_17 o5_17 [(0, 1), (0, 2), (1, 2)] := execI_reg' (by kernel_rfl)
noncomputable def r5_18 : Code := navF Try.f5 [1, 1, 1, 1, 0]
noncomputable def o5_18 : List Oper := [sop (some 93) (.load 34 (.tmp 8)) none,
    sop (some 94) (.load 34 (.tmp 8)) none,
    sop (some 95) (.makeSlice 76 (.const (.int .i64 4097)) (.const (.int .i64 4097))) none,
    sop (some 96) (.call { callee := (.value (.func 26)), args := #[(.tmp 93), (.tmp 94), (.tmp 95)], argTypes := #[34, 34, 76] }) none,
    sop (some 92) (.move (.tmp 96)) none,
    sop (some 97) (.extract (.tmp 92) 0) none,
    sop (some 98) (.extract (.tmp 92) 1) none,
    sop (some 11) (.assign (.tmp 97)) none,
    sop (some 12) (.assign (.tmp 98)) none]
theorem xr5_18 : Xr 5 207 r5_18 o5_18 [(0, 1), (0, 2), (1, 2)] := execI_reg' (by kernel_rfl)
noncomputable def r5_19 : Code := navF Try.f5 [1, 1, 1, 1, 1, 0, 0]
noncomputable def o5_19 : List Oper := [sop (some 99) (.move (.tmp 9)) none,
    sop (some 100) (.unOp .not 4 (.tmp 99)) none,
    sop (some 101) (.move (.tmp 100)) none,
    sop (some 102) (.move (.tmp 10)) (some (2, false)),
    sop (some 103) (.binOp .neq 40 (.tmp 102) (.const (.int .i64 0)) 40) (some (2, false)),
    sop (some 104) (.pick (.tmp 101) (.const (.bool true)) (.tmp 103)) none,
    sop (some 105) (.move (.tmp 104)) none,
    sop (some 106) (.move (.tmp 11)) (some (6, false)),
    sop (some 107) (.pick (.tmp 105) (.const (.bool true)) (.tmp 106)) none,
    sop (some 108) (.move (.tmp 107)) none,
    sop (some 109) (.move (.tmp 12)) (some (9, false)),
    sop (some 110) (.binOp .neq 40 (.tmp 109) (.const (.int .i64 3)) 40) (some (9, false)),
    sop (some 111) (.pick (.tmp 108) (.const (.bool true)) (.tmp 110)) none]
theorem xr5_19 : Xr 5 207 r5_19 o5_19 [] := execI_reg' (by kernel_rfl)
noncomputable def r5_20 : Code := navF Try.f5 [1, 1, 1, 1, 1, 0, 1, 0, 0]
noncomputable def r5_21 : Code := navF Try.f5 [1, 1, 1, 1, 1, 1, 0]
noncomputable def o5_21 : List Oper := [sop (some 13) (.assign (.const (.int .i64 1))) none]
theorem xr5_21 : Xr 5 207 r5_21 o5_21 [] := execI_reg' (by kernel_rfl)
noncomputable def r5_22 : Code := navF Try.f5 [1, 1, 1, 1, 1, 1, 1, 0, 0]
noncomputable def o5_22 : List Oper := [sop (some 14) (.assign (.const (.int .i64 0))) none]
theorem xr5_22 : Xr 5 207 r5_22 o5_22 [] := execI_reg' (by kernel_rfl)
noncomputable def l5_3 : Code := navF Try.f5 [1, 1, 1, 1, 1, 1, 1, 0, 1, 0, 0]
noncomputable def r5_23 : Code := navF Try.f5 [1, 1, 1, 1, 1, 1, 1, 0, 1, 0, 0, 0, 0]
noncomputable def o5_23 : List Oper := [sop (some 112) (.move (.tmp 14)) none,
    sop (some 113) (.binOp .lss 3 (.tmp 112) (.const (.int .i64 40)) 3) none]
theorem xr5_23 : Xr 5 207 r5_23 o5_23 [] := execI_reg' (by kernel_rfl)
noncomputable def r5_25 : Code := navF Try.f5 [1, 1, 1, 1, 1, 1, 1, 0, 1, 0, 0, 1, 0, 0, 0]
noncomputable def o5_25 : List Oper := [sop (some 15) (.assign (.const (.slice none 0 0))) none]
theorem xr5_25 : Xr 5 207 r5_25 o5_25 [] := execI_reg' (by kernel_rfl)
noncomputable def r5_26 : Code := navF Try.f5 [1, 1, 1, 1, 1, 1, 1, 0, 1, 0, 0, 1, 0, 0, 1, 0, 0]
noncomputable def o5_26 : List Oper := [sop (some 16) (.assign (.const (.int .i64 0))) none]
theorem xr5_26 : Xr 5 207 r5_26 o5_26 [] := execI_reg' (by kernel_rfl)
noncomputable def l5_4 : Code := navF Try.f5 [1, 1, 1, 1, 1, 1, 1, 0, 1, 0, 0, 1, 0, 0, 1, 0, 1, 0, 0]
noncomputable def r5_27 : Code := navF Try.f5 [1, 1, 1, 1, 1, 1, 1, 0, 1, 0, 0, 1, 0, 0, 1, 0, 1, 0, 0, 0, 0]
noncomputable def o5_27 : List Oper := [sop (some 116) (.move (.tmp 16)) none,
    sop (some 117) (.binOp .lss 3 (.tmp 116) (.const (.int .i64 18)) 3) none]
theorem xr5_27 : Xr 5 207 r5_27 o5_27 [] := execI_reg' (by kernel_rfl)
noncomputable def r5_29 : Code := navF Try.f5 [1, 1, 1, 1, 1, 1, 1, 0, 1, 0, 0, 1, 0, 0, 1, 0, 1, 0, 0, 1, 0, 0, 0]
noncomputable def o5_29 : List Oper := [sop (some 120) (.move (.tmp 13)) none,
    sop (some 121) (.binOp .mul 3 (.tmp 120) (.const (.int .i64 31)) 3) none,
    sop (some 122) (.move (.tmp 16)) none,
    sop (some 123) (.binOp .mul 3 (.const (.int .i64 7)) (.tmp 122) 3) none,
    sop (some 124) (.binOp .add 3 (.tmp 121) (.tmp 123) 3) none,
    sop (some 125) (.binOp .add 3 (.tmp 124) (.const (.int .i64 11)) 3) none,
    sop (some 126) (.binOp .rem 3 (.tmp 125) (.const (.int .i64 100003)) 3) none,
    sop (some 13) (.assign (.tmp 126)) none]
theorem xr5_29 : Xr 5 207 r5_29 o5_29 [] := execI_reg' (by kernel_rfl)
noncomputable def r5_30 : Code := navF Try.f5 [1, 1, 1, 1, 1, 1, 1, 0, 1, 0, 0, 1, 0, 0, 1, 0, 1, 0, 0, 1, 0, 0, 1]
noncomputable def o5_30 : List Oper := [sop (some 127) (.move (.tmp 15)) none,
    sop (some 128) (.move (.tmp 13)) none,
    sop (some 129) (.move (.tmp 14)) none,
    sop (some 130) (.binOp .add 3 (.const (.int .i64 8)) (.tmp 129) 3) none,
    sop (some 131) (.binOp .rem 3 (.tmp 128) (.tmp 130) 3) none,
    sop (some 132) (.convert 3 77 (.tmp 131)) none,
    sop (some 133) (.buildSlice 23 1 #[(0, (.tmp 132))]) none,
    sop (some 134) (.call { callee := (.builtin .append), args := #[(.tmp 127), (.tmp 133)], argTypes := #[23, 23] }) none,
    sop (some 15) (.assign (.tmp 134)) none]
theorem xr5_30 : Xr 5 207 r5_30 o5_30 [] := execI_reg' (by kernel_rfl)
noncomputable def r5_28 : Code := navF Try.f5 [1, 1, 1, 1, 1, 1, 1, 0, 1, 0, 0, 1, 0, 0, 1, 0, 1, 0, 0, 1, 1]
noncomputable def o5_28 : List Oper := [sop (some 118) (.move (.tmp 16)) none,
    sop (some 119) (.binOp .add 3 (.tmp 118) (.const (.int .i64 1)) 3) none,
    sop (some 16) (.assign (.tmp 119)) none]
theorem xr5_28 : Xr 5 207 r5_28 o5_28 [] := execI_reg' (by kernel_rfl)
theorem cl5_4 : l5_4 = (.seq (.seq r5_27 (.cond (.tmp 117) .skip (.exit 8))) (.seq (.block 9 (.seq r5_29 r5_30)) r5_28)) := by kernel_rfl
noncomputable def r5_31 : Code := navF Try.f5 [1, 1, 1, 1, 1, 1, 1, 0, 1, 0, 0, 1, 0, 0, 1, 1, 0]
noncomputable def o5_31 : List Oper := [sop (some 135) (.move (.tmp 14)) none,
    sop (some 136) (.convert 3 5 (.tmp 135)) none,
    sop (some 137) (.move (.tmp 14)) none,
    sop (some 138) (.binOp .quo 3 (.tmp 137) (.const (.int .i64 3)) 3) none,
    sop (some 139) (.convert 3 5 (.tmp 138)) none,
    sop (some 140) (.move (.tmp 14)) none,
    sop (some 141) (.binOp .rem 3 (.tmp 140) (.const (.int .i64 2)) 3) none,
    sop (some 142) (.binOp .eql 3 (.tmp 141) (.const (.int .i64 0)) 3) none,
    sop (some 143) (.move (.tmp 15)) none,
    sop (some 144) (.build 53 #[(0, (.tmp 136)), (1, (.tmp 139)), (2, (.const (.int .u8 1))), (3, (.tmp 142)), (4, (.tmp 143))]) none,
    sop (some 17) (.alloc 53) none,
    sop none (.store 53 (.tmp 17) (.tmp 144)) none]
theorem xr5_31 : Xr 5 207 r5_31 o5_31 [] := execI_reg' (by kernel_rfl)
noncomputable def r5_32 : Code := navF Try.f5 [1, 1, 1, 1, 1, 1, 1, 0, 1, 0, 0, 1, 0, 0, 1, 1, 1, 0]
noncomputable def o5_32 : List Oper := [sop (some 145) (.load 53 (.tmp 17)) none,
    sop (some 146) (.move (.tmp 13)) none,
    sop (some 147) (.convert 3 5 (.tmp 146)) none,
    sop (some 148) (.move (.tmp 14)) none,
    sop (some 149) (.binOp .rem 3 (.tmp 148) (.const (.int .i64 3)) 3) none,
    sop (some 150) (.binOp .eql 3 (.tmp 149) (.const (.int .i64 0)) 3) none,
    sop (some 151) (.move (.tmp 15)) none,
    sop (some 152) (.slice 23 (.tmp 151) (some (.const (.int .i64 3))) none none) none,
    sop (some 153) (.build 53 #[(0, (.tmp 147)), (1, (.const (.int .u8 0))), (2, (.const (.int .u8 1))), (3, (.tmp 150)), (4, (.tmp 152))]) none,
    sop (some 154) (.move (.tmp 14)) none,
    sop (some 155) (.binOp .rem 3 (.tmp 154) (.const (.int .i64 4)) 3) none,
    sop (some 156) (.binOp .neq 3 (.tmp 155) (.const (.int .i64 0)) 3) none,
    sop (some 157) (.move (.tmp 14)) none,
    sop (some 158) (.convert 3 5 (.tmp 157)) none,
    sop (some 159) (.move (.tmp 13)) none,
    sop (some 160) (.convert 3 5 (.tmp 159)) none,
    sop (some 161) (.build 31 #[(0, (.tmp 158)), (1, (.tmp 160))]) none,
    sop (some 162) (.move (.tmp 13)) none,
    sop (some 163) (.convert 3 5 (.tmp 162)) none,
    sop (some 164) (.move (.tmp 14)) none,
    sop (some 165) (.convert 3 5 (.tmp 164)) none,
    sop (some 166) (.build 31 #[(0, (.tmp 163)), (1, (.tmp 165))]) none,
    sop (some 167) (.move (.tmp 14)) none,
    sop (some 168) (.binOp .rem 3 (.tmp 167) (.const (.int .i64 5)) 3) none,
    sop (some 169) (.move (.tmp 14)) none,
    sop (some 170) (.binOp .rem 3 (.tmp 169) (.const (.int .i64 4)) 3) none,
    sop (some 171) (.call { callee := (.value (.func 24)), args := #[(.tmp 168), (.tmp 170)], argTypes := #[3, 3] }) none,
    sop (some 172) (.build 57 #[(0, (.tmp 145)), (1, (.tmp 153)), (2, (.tmp 156)), (3, (.tmp 161)), (4, (.tmp 166)), (5, (.tmp 171))]) none,
    sop (some 18) (.alloc 57) none,
    sop none (.store 57 (.tmp 18) (.tmp 172)) none]
theorem xr5_32 : Xr 5 207 r5_32 o5_32 [(0, 7), (0, 26), (7, 26), (0, 28), (7, 28), (26, 28)] := execI_reg' (by kernel_rfl)
noncomputable def r5_33 : Code := navF Try.f5 [1, 1, 1, 1, 1, 1, 1, 0, 1, 0, 0, 1, 0, 0, 1, 1, 1, 1, 0]
noncomputable def o5_33 : List Oper := [sop (some 173) (.load 57 (.tmp 18)) none,
    sop (some 174) (.call { callee := (.value (.func 27)), args := #[(.tmp 173)], argTypes := #[57] }) none,
    sop (some 175) (.unOp .not 4 (.tmp 174)) none,
    sop (some 176) (.move (.tmp 175)) none,
    sop (some 177) (.load 57 (.tmp 18)) (some (3, false)),
    sop (some 178) (.move (.tmp 13)) (some (3, false)),
    sop (some 179) (.convert 3 5 (.tmp 178)) (some (3, false)),
    sop (some 180) (.move (.tmp 14)) (some (3, false)),
    sop (some 181) (.convert 3 5 (.tmp 180)) (some (3, false)),
    sop (some 182) (.buildSlice 22 4 #[(0, (.tmp 179)), (1, (.tmp 181)), (2, (.const (.int .u8 1))), (3, (.const (.int .u8 2)))]) (some (3, false)),
    sop (some 183) (.build 59 #[(0, (.tmp 182))]) (some (3, false)),
    sop (some 184) (.call { callee := (.value (.func 4)), args := #[(.tmp 177), (.tmp 183)], argTypes := #[57, 59] }) (some (3, false)),
    sop (some 185) (.unOp .not 4 (.tmp 184)) (some (3, false)),
    sop (some 186) (.pick (.tmp 176) (.const (.bool true)) (.tmp 185)) none,
    sop (some 187) (.move (.tmp 186)) none,
    sop (some 188) (.load 57 (.tmp 18)) (some (14, false)),
    sop (some 189) (.move (.tmp 14)) (some (14, false)),
    sop (some 190) (.binOp .rem 3 (.tmp 189) (.const (.int .i64 8)) 3) (some (14, false)),
    sop (some 191) (.call { callee := (.value (.func 28)), args := #[(.tmp 188), (.tmp 190)], argTypes := #[57, 3] }) (some (14, false)),
    sop (some 192) (.unOp .not 4 (.tmp 191)) (some (14, false)),
    sop (some 193) (.pick (.tmp 187) (.const (.bool true)) (.tmp 192)) none,
    sop (some 194) (.move (.tmp 193)) none,
    sop (some 195) (.load 57 (.tmp 18)) (some (21, false)),
    sop (some 196) (.move (.tmp 14)) (some (21, false)),
    sop (some 197) (.convert 3 5 (.tmp 196)) (some (21, false)),
    sop (some 198) (.move (.tmp 13)) (some (21, false)),
    sop (some 199) (.convert 3 5 (.tmp 198)) (some (21, false)),
    sop (some 200) (.build 31 #[(0, (.tmp 197)), (1, (.tmp 199))]) (some (21, false)),
    sop (some 201) (.build 31 #[(0, (.const (.int .u8 0))), (1, (.const (.int .u8 1)))]) (some (21, false)),
    sop (some 202) (.buildSlice 81 2 #[(0, (.tmp 200)), (1, (.tmp 201))]) (some (21, false)),
    sop (some 203) (.call { callee := (.value (.func 29)), args := #[(.tmp 195), (.tmp 202)], argTypes := #[57, 81] }) (some (21, false)),
    sop (some 204) (.unOp .not 4 (.tmp 203)) (some (21, false)),
    sop (some 205) (.pick (.tmp 194) (.const (.bool true)) (.tmp 204)) none]
theorem xr5_33 : Xr 5 207 r5_33 o5_33 [] := execI_reg' (by kernel_rfl)
noncomputable def r5_34 : Code := navF Try.f5 [1, 1, 1, 1, 1, 1, 1, 0, 1, 0, 0, 1, 0, 0, 1, 1, 1, 1, 1, 0, 0]
noncomputable def r5_24 : Code := navF Try.f5 [1, 1, 1, 1, 1, 1, 1, 0, 1, 0, 0, 1, 1]
noncomputable def o5_24 : List Oper := [sop (some 114) (.move (.tmp 14)) none,
    sop (some 115) (.binOp .add 3 (.tmp 114) (.const (.int .i64 1)) 3) none,
    sop (some 14) (.assign (.tmp 115)) none]
theorem xr5_24 : Xr 5 207 r5_24 o5_24 [] := execI_reg' (by kernel_rfl)
theorem cl5_3 : l5_3 = (.seq (.seq r5_23 (.cond (.tmp 113) .skip (.exit 6))) (.seq (.block 7 (.seq r5_25 (.seq (.seq r5_26 (.block 8 (.loop l5_4))) (.seq r5_31 (.seq r5_32 (.seq r5_33 (.cond (.tmp 205) (.seq r5_34 .ret) .skip))))))) r5_24)) := by kernel_rfl
noncomputable def r5_35 : Code := navF Try.f5 [1, 1, 1, 1, 1, 1, 1, 1, 0]
noncomputable def o5_35 : List Oper := [sop (some 206) (.call { callee := (.value (.func 23)), args := #[], argTypes := #[] }) none,
    sop (some 0) (.assign (.tmp 206)) none]
theorem xr5_35 : Xr 5 207 r5_35 o5_35 [] := execI_reg' (by kernel_rfl)
noncomputable def b5 : Code := (.seq r5_0 (.seq (.seq r5_1 (.block 0 (.loop l5_0))) (.seq r5_16 (.seq r5_17 (.seq r5_18 (.seq (.seq r5_19 (.cond (.tmp 111) (.seq r5_20 .ret) .skip)) (.seq r5_21 (.seq (.seq r5_22 (.block 6 (.loop l5_3))) (.seq r5_35 .ret)))))))))
theorem body5 : Try.f5.body = some b5 := by kernel_rfl
theorem fn5 : E.fn 5 = some Try.f5 := by kernel_rfl
theorem run5 (args : List D) (h : H) (hl : args.length ≤ 207) : bodyI E 5 args h = resOf E [(.tmp 0)] (execI E 5 207 b5 ⟨argA args, h⟩) := bodyI_res fn5 body5 rfl rfl args h hl
end Go.Eng.E3
namespace Go.Eng.E3
open Go Go.Eng Go.Proofs
set_option maxRecDepth 100000
noncomputable def r110_0 : Code := navF Try.f110 [0]
noncomputable def o110_0 : List Oper := [sop (some 2) (.assign (.const (.slice none 0 0))) none]
theorem xr110_0 : Xr 110 9 r110_0 o110_0 [] := execI_reg' (by kernel_rfl)
noncomputable def r110_1 : Code := navF Try.f110 [1, 0]
noncomputable def o110_1 : List Oper := [sop (some 3) (.move (.tmp 0)) none,
    sop (some 4) (.move (.tmp 0)) none,
    sop (some 5) (.call { callee := (.builtin .len), args := #[(.tmp 4)], argTypes := #[62] }) none,
    sop (some 6) (.move (.tmp 0)) none,
    sop (some 7) (.call { callee := (.builtin .len), args := #[(.tmp 6)], argTypes := #[62] }) none,
    sop (some 8) (.slice 62 (.tmp 3) none (some (.tmp 5)) (some (.tmp 7))) none,
    sop (some 2) (.assign (.tmp 8)) none]
theorem xr110_1 : Xr 110 9 r110_1 o110_1 [] := execI_reg' (by kernel_rfl)
noncomputable def b110 : Code := (.seq r110_0 (.seq r110_1 .ret))
theorem body110 : Try.f110.body = some b110 := by kernel_rfl
theorem fn110 : E.fn 110 = some Try.f110 := by kernel_rfl
theorem run110 (args : List D) (h : H) (hl : args.length ≤ 9) : bodyI E 110 args h = resOf E [(.tmp 2)] (execI E 110 9 b110 ⟨argA args, h⟩) := bodyI_res fn110 body110 rfl rfl args h hl
noncomputable def r87_0 : Code := navF Try.f87 [0]
noncomputable def o87_0 : List Oper := [sop (some 6) (.assign (.const (.slice none 0 0))) none]
theorem xr87_0 : Xr 87 28 r87_0 o87_0 [] := execI_reg' (by kernel_rfl)
noncomputable def l87_0 : Code := navF Try.f87 [1, 0, 0, 0]
noncomputable def r87_1 : Code := navF Try.f87 [1, 0, 0, 0, 0, 0]
noncomputable def o87_1 : List Oper := [sop (some 7) (.move (.tmp 0)) none,
    sop (some 8) (.move (.tmp 1)) none,
    sop (some 9) (.indexAddr 140 (.tmp 7) (.tmp 8)) none,
    sop (some 10) (.fieldAddr 166 (.tmp 9) 1) none,
    sop (some 11) (.load 3 (.tmp 10)) none,
    sop (some 12) (.binOp .neq 3 (.tmp 11) (.const (.int .i64 (-1))) 3) none]
theorem xr87_1 : Xr 87 28 r87_1 o87_1 [] := execI_reg' (by kernel_rfl)
noncomputable def r87_2 : Code := navF Try.f87 [1, 0, 0, 0, 1, 0, 0]
noncomputable def o87_2 : List Oper := [sop (some 13) (.move (.tmp 0)) none,
    sop (some 14) (.move (.tmp 1)) none,
    sop (some 15) (.indexAddr 140 (.tmp 13) (.tmp 14)) none,
    sop (some 16) (.fieldAddr 166 (.tmp 15) 2) none,
    sop (some 17) (.load 3 (.tmp 16)) none,
    sop (some 18) (.buildSlice 62 1 #[(0, (.tmp 17))]) none,
    sop (some 19) (.move (.tmp 2)) none,
    sop (some 20) (.call { callee := (.builtin .append), args := #[(.tmp 18), (.tmp 19)], argTypes := #[62, 62] }) none,
    sop (some 2) (.assign (.tmp 20)) none]
theorem xr87_2 : Xr 87 28 r87_2 o87_2 [] := execI_reg' (by kernel_rfl)
noncomputable def r87_3 : Code := navF Try.f87 [1, 0, 0, 0, 1, 0, 1]
noncomputable def o87_3 : List Oper := [sop (some 21) (.move (.tmp 0)) none,
    sop (some 22) (.move (.tmp 1)) none,
    sop (some 23) (.indexAddr 140 (.tmp 21) (.tmp 22)) none,
    sop (some 24) (.fieldAddr 166 (.tmp 23) 1) none,
    sop (some 25) (.load 3 (.tmp 24)) none,
    sop (some 1) (.assign (.tmp 25)) none]
theorem xr87_3 : Xr 87 28 r87_3 o87_3 [] := execI_reg' (by kernel_rfl)
theorem cl87_0 : l87_0 = (.seq (.seq r87_1 (.cond (.tmp 12) .skip (.exit 0))) (.block 1 (.seq r87_2 r87_3))) := by kernel_rfl
noncomputable def r87_4 : Code := navF Try.f87 [1, 1, 0]
noncomputable def o87_4 : List Oper := [sop (some 26) (.move (.tmp 2)) none,
    sop (some 27) (.call { callee := (.value (.func 110)), args := #[(.tmp 26)], argTypes := #[62] }) none,
    sop (some 6) (.assign (.tmp 27)) none]
theorem xr87_4 : Xr 87 28 r87_4 o87_4 [] := execI_reg' (by kernel_rfl)
noncomputable def b87 : Code := (.seq r87_0 (.seq (.block 0 (.loop l87_0)) (.seq r87_4 .ret)))
theorem body87 : Try.f87.body = some b87 := by kernel_rfl
theorem fn87 : E.fn 87 = some Try.f87 := by kernel_rfl
theorem run87 (args : List D) (h : H) (hl : args.length ≤ 28) : bodyI E 87 args h = resOf E [(.tmp 6)] (execI E 87 28 b87 ⟨argA args, h⟩) := bodyI_res fn87 body87 rfl rfl args h hl
noncomputable def r86_0 : Code := navF Try.f86 [0]
noncomputable def o86_0 : List Oper := [sop (some 2) (.box 34 (.tmp 0)) none,
    sop (some 3) (.box 34 (.tmp 1)) none,
    sop (some 4) (.assign (.const .nilFunc)) none]
theorem xr86_0 : Xr 86 6 r86_0 o86_0 [] := execI_reg' (by kernel_rfl)
noncomputable def r86_1 : Code := navF Try.f86 [1, 0]
noncomputable def o86_1 : List Oper := [sop (some 5) (.makeFunc (.func 109) #[] #[(.tmp 2), (.tmp 3)]) none,
    sop (some 4) (.assign (.tmp 5)) none]
theorem xr86_1 : Xr 86 6 r86_1 o86_1 [] := execI_reg' (by kernel_rfl)
noncomputable def b86 : Code := (.seq r86_0 (.seq r86_1 .ret))
theorem body86 : Try.f86.body = some b86 := by kernel_rfl
theorem fn86 : E.fn 86 = some Try.f86 := by kernel_rfl
theorem run86 (args : List D) (h : H) (hl : args.length ≤ 6) : bodyI E 86 args h = resOf E [(.tmp 4)] (execI E 86 6 b86 ⟨argA args, h⟩) := bodyI_res fn86 body86 rfl rfl args h hl
noncomputable def r109_0 : Code := navF Try.f109 [0]
noncomputable def o109_0 : List Oper := [sop (some 13) (.makeMap 111 none) none,
    sop (some 14) (.build 105 #[]) none,
    sop none (.insert 111 (.tmp 13) (.tmp 14) (.const (.bool true))) none,
    sop (some 15) (.move (.tmp 13)) none,
    sop (some 4) (.assign (.tmp 15)) none]
theorem xr109_0 : Xr 109 95 r109_0 o109_0 [] := execI_reg' (by kernel_rfl)
noncomputable def r109_1 : Code := navF Try.f109 [1, 0]
noncomputable def o109_1 : List Oper := [sop (some 16) (.build 166 #[(1, (.const (.int .i64 (-1))))]) none,
    sop (some 17) (.buildSlice 140 1 #[(0, (.tmp 16))]) none,
    sop (some 5) (.assign (.tmp 17)) none]
theorem xr109_1 : Xr 109 95 r109_1 o109_1 [] := execI_reg' (by kernel_rfl)
noncomputable def r109_2 : Code := navF Try.f109 [1, 1, 0]
noncomputable def o109_2 : List Oper := [sop (some 6) (.assign (.const (.int .i64 0))) none]
theorem xr109_2 : Xr 109 95 r109_2 o109_2 [] := execI_reg' (by kernel_rfl)
noncomputable def l109_0 : Code := navF Try.f109 [1, 1, 1, 0, 0]
noncomputable def r109_3 : Code := navF Try.f109 [1, 1, 1, 0, 0, 0, 0]
noncomputable def o109_3 : List Oper := [sop (some 18) (.move (.tmp 6)) none,
    sop (some 19) (.move (.tmp 5)) none,
    sop (some 20) (.call { callee := (.builtin .len), args := #[(.tmp 19)], argTypes := #[140] }) none,
    sop (some 21) (.binOp .lss 3 (.tmp 18) (.tmp 20) 3) none]
theorem xr109_3 : Xr 109 95 r109_3 o109_3 [] := execI_reg' (by kernel_rfl)
noncomputable def r109_5 : Code := navF Try.f109 [1, 1, 1, 0, 0, 1, 0, 0, 0]
noncomputable def o109_5 : List Oper := [sop (some 24) (.move (.tmp 5)) none,
    sop (some 25) (.move (.tmp 6)) none,
    sop (some 26) (.indexAddr 140 (.tmp 24) (.tmp 25)) none,
    sop (some 27) (.fieldAddr 166 (.tmp 26) 0) none,
    sop (some 28) (.indexAddr 105 (.tmp 27) (.const (.int .i64 0))) none,
    sop (some 29) (.load 3 (.tmp 28)) none,
    sop (some 30) (.move (.tmp 5)) none,
    sop (some 31) (.move (.tmp 6)) none,
    sop (some 32) (.indexAddr 140 (.tmp 30) (.tmp 31)) none,
    sop (some 33) (.fieldAddr 166 (.tmp 32) 0) none,
    sop (some 34) (.indexAddr 105 (.tmp 33) (.const (.int .i64 1))) none,
    sop (some 35) (.load 3 (.tmp 34)) none,
    sop (some 7) (.assign (.tmp 29)) none,
    sop (some 8) (.assign (.tmp 35)) none]
theorem xr109_5 : Xr 109 95 r109_5 o109_5 [(5, 11)] := execI_reg' (by kernel_rfl)
noncomputable def r109_6 : Code := navF Try.f109 [1, 1, 1, 0, 0, 1, 0, 0, 1, 0]
noncomputable def o109_6 : List Oper := [sop (some 36) (.fieldAddr 34 (.tmp 1) 0) none,
    sop (some 37) (.load 3 (.tmp 36)) none,
    sop (some 38) (.move (.const (.int .i64 0))) none]
theorem xr109_6 : Xr 109 95 r109_6 o109_6 [] := execI_reg' (by kernel_rfl)
noncomputable def l109_1 : Code := navF Try.f109 [1, 1, 1, 0, 0, 1, 0, 0, 1, 1, 0, 0]
noncomputable def r109_7 : Code := navF Try.f109 [1, 1, 1, 0, 0, 1, 0, 0, 1, 1, 0, 0, 0]
noncomputable def o109_7 : List Oper := [sop (some 39) (.binOp .lss 3 (.tmp 38) (.tmp 37) 3) none]
theorem xr109_7 : Xr 109 95 r109_7 o109_7 [] := execI_reg' (by kernel_rfl)
noncomputable def r109_8 : Code := navF Try.f109 [1, 1, 1, 0, 0, 1, 0, 0, 1, 1, 0, 0, 1, 1, 0, 0, 0]
noncomputable def o109_8 : List Oper := [sop (some 40) (.move (.tmp 38)) none,
    sop (some 9) (.assign (.tmp 40)) none]
theorem xr109_8 : Xr 109 95 r109_8 o109_8 [] := execI_reg' (by kernel_rfl)
noncomputable def r109_9 : Code := navF Try.f109 [1, 1, 1, 0, 0, 1, 0, 0, 1, 1, 0, 0, 1, 1, 0, 0, 1, 0]
noncomputable def o109_9 : List Oper := [sop (some 41) (.fieldAddr 34 (.tmp 1) 2) none,
    sop (some 42) (.load 32 (.tmp 41)) none,
    sop (some 43) (.move (.tmp 7)) none,
    sop (some 44) (.indexAddr 32 (.tmp 42) (.tmp 43)) none,
    sop (some 45) (.load 72 (.tmp 44)) none,
    sop (some 46) (.move (.tmp 9)) none,
    sop (some 47) (.indexAddr 72 (.tmp 45) (.tmp 46)) none,
    sop (some 48) (.load 55 (.tmp 47)) none,
    sop (some 49) (.fieldAddr 34 (.tmp 2) 2) none,
    sop (some 50) (.load 32 (.tmp 49)) none,
    sop (some 51) (.move (.tmp 8)) none,
    sop (some 52) (.indexAddr 32 (.tmp 50) (.tmp 51)) none,
    sop (some 53) (.load 72 (.tmp 52)) none,
    sop (some 54) (.move (.tmp 9)) none,
    sop (some 55) (.indexAddr 72 (.tmp 53) (.tmp 54)) none,
    sop (some 56) (.load 55 (.tmp 55)) none,
    sop (some 10) (.alloc 55) none,
    sop (some 11) (.alloc 55) none,
    sop none (.store 55 (.tmp 10) (.tmp 48)) none,
    sop none (.store 55 (.tmp 11) (.tmp 56)) none]
theorem xr109_9 : Xr 109 95 r109_9 o109_9 [(1, 9), (4, 9), (7, 9), (1, 12), (4, 12), (7, 12), (1, 15), (4, 15), (7, 15), (1, 16), (4, 16), (7, 16), (9, 16), (12, 16), (15, 16), (1, 17), (4, 17), (7, 17), (9, 17), (12, 17), (15, 17), (16, 17), (9, 18), (12, 18), (15, 18)] := execI_reg' (by kernel_rfl)
noncomputable def r109_10 : Code := navF Try.f109 [1, 1, 1, 0, 0, 1, 0, 0, 1, 1, 0, 0, 1, 1, 0, 0, 1, 1, 0, 0]
noncomputable def o109_10 : List Oper := [sop (some 57) (.move (.tmp 0)) none,
    sop (some 58) (.move (.tmp 6)) none,
    sop (some 59) (.move (.tmp 9)) none,
    sop (some 60) (.load 55 (.tmp 10)) none,
    sop (some 61) (.load 55 (.tmp 11)) none,
    sop (some 62) (.build 139 #[(0, (.tmp 58)), (1, (.tmp 59)), (2, (.tmp 60)), (3, (.tmp 61))]) none,
    sop (some 63) (.move (.tmp 5)) none,
    sop (some 64) (.call { callee := (.value (.tmp 57)), args := #[(.tmp 62), (.tmp 63)], argTypes := #[139, 140] }) none,
    sop (some 65) (.unOp .not 4 (.tmp 64)) none]
theorem xr109_10 : Xr 109 95 r109_10 o109_10 [] := execI_reg' (by kernel_rfl)
noncomputable def r109_11 : Code := navF Try.f109 [1, 1, 1, 0, 0, 1, 0, 0, 1, 1, 0, 0, 1, 1, 0, 0, 1, 1, 1, 0]
noncomputable def o109_11 : List Oper := [sop (some 66) (.fieldAddr 55 (.tmp 10) 0) none,
    sop (some 67) (.load 3 (.tmp 66)) none,
    sop (some 68) (.fieldAddr 55 (.tmp 11) 0) none,
    sop (some 69) (.load 3 (.tmp 68)) none,
    sop (some 70) (.build 105 #[(0, (.tmp 67)), (1, (.tmp 69))]) none,
    sop (some 12) (.alloc 105) none,
    sop none (.store 105 (.tmp 12) (.tmp 70)) none]
theorem xr109_11 : Xr 109 95 r109_11 o109_11 [] := execI_reg' (by kernel_rfl)
noncomputable def r109_12 : Code := navF Try.f109 [1, 1, 1, 0, 0, 1, 0, 0, 1, 1, 0, 0, 1, 1, 0, 0, 1, 1, 1, 1, 0]
noncomputable def o109_12 : List Oper := [sop (some 71) (.fieldAddr 55 (.tmp 10) 0) none,
    sop (some 72) (.load 3 (.tmp 71)) none,
    sop (some 73) (.binOp .neq 3 (.tmp 72) (.const (.int .i64 (-1))) 3) none,
    sop (some 74) (.move (.tmp 73)) none,
    sop (some 75) (.fieldAddr 55 (.tmp 11) 0) (some (3, true)),
    sop (some 76) (.load 3 (.tmp 75)) (some (3, true)),
    sop (some 77) (.binOp .neq 3 (.tmp 76) (.const (.int .i64 (-1))) 3) (some (3, true)),
    sop (some 78) (.pick (.tmp 74) (.tmp 77) (.const (.bool false))) none,
    sop (some 79) (.move (.tmp 78)) none,
    sop (some 80) (.move (.tmp 4)) (some (8, true)),
    sop (some 81) (.load 105 (.tmp 12)) (some (8, true)),
    sop (some 82) (.lookup 111 (.tmp 80) (.tmp 81) false) (some (8, true)),
    sop (some 83) (.unOp .not 4 (.tmp 82)) (some (8, true)),
    sop (some 84) (.pick (.tmp 79) (.tmp 83) (.const (.bool false))) none]
theorem xr109_12 : Xr 109 95 r109_12 o109_12 [] := execI_reg' (by kernel_rfl)
noncomputable def r109_13 : Code := navF Try.f109 [1, 1, 1, 0, 0, 1, 0, 0, 1, 1, 0, 0, 1, 1, 0, 0, 1, 1, 1, 1, 1, 0, 0]
noncomputable def o109_13 : List Oper := [sop (some 85) (.move (.tmp 4)) none,
    sop (some 86) (.load 105 (.tmp 12)) none,
    sop none (.mapUpdate 111 (.tmp 85) (.tmp 86) (.const (.bool true))) none]
theorem xr109_13 : Xr 109 95 r109_13 o109_13 [] := execI_reg' (by kernel_rfl)
noncomputable def r109_14 : Code := navF Try.f109 [1, 1, 1, 0, 0, 1, 0, 0, 1, 1, 0, 0, 1, 1, 0, 0, 1, 1, 1, 1, 1, 0, 1]
noncomputable def o109_14 : List Oper := [sop (some 87) (.move (.tmp 5)) none,
    sop (some 88) (.load 105 (.tmp 12)) none,
    sop (some 89) (.move (.tmp 6)) none,
    sop (some 90) (.move (.tmp 9)) none,
    sop (some 91) (.build 166 #[(0, (.tmp 88)), (1, (.tmp 89)), (2, (.tmp 90))]) none,
    sop (some 92) (.buildSlice 140 1 #[(0, (.tmp 91))]) none,
    sop (some 93) (.call { callee := (.builtin .append), args := #[(.tmp 87), (.tmp 92)], argTypes := #[140, 140] }) none,
    sop (some 5) (.assign (.tmp 93)) none]
theorem xr109_14 : Xr 109 95 r109_14 o109_14 [] := execI_reg' (by kernel_rfl)
noncomputable def r109_15 : Code := navF Try.f109 [1, 1, 1, 0, 0, 1, 0, 0, 1, 1, 0, 0, 1, 1, 1]
noncomputable def o109_15 : List Oper := [sop (some 94) (.binOp .add 3 (.tmp 38) (.const (.int .i64 1)) 3) none,
    sop (some 38) (.move (.tmp 94)) none]
theorem xr109_15 : Xr 109 95 r109_15 o109_15 [] := execI_reg' (by kernel_rfl)
theorem cl109_1 : l109_1 = (.seq r109_7 (.seq (.cond (.tmp 39) .skip (.exit 2)) (.seq (.block 3 (.seq r109_8 (.seq r109_9 (.seq (.seq r109_10 (.cond (.tmp 65) .ret .skip)) (.seq r109_11 (.seq r109_12 (.cond (.tmp 84) (.seq r109_13 r109_14) .skip))))))) r109_15))) := by kernel_rfl
noncomputable def r109_4 : Code := navF Try.f109 [1, 1, 1, 0, 0, 1, 1]
noncomputable def o109_4 : List Oper := [sop (some 22) (.move (.tmp 6)) none,
    sop (some 23) (.binOp .add 3 (.tmp 22) (.const (.int .i64 1)) 3) none,
    sop (some 6) (.assign (.tmp 23)) none]
theorem xr109_4 : Xr 109 95 r109_4 o109_4 [] := execI_reg' (by kernel_rfl)
theorem cl109_0 : l109_0 = (.seq (.seq r109_3 (.cond (.tmp 21) .skip (.exit 0))) (.seq (.block 1 (.seq r109_5 (.seq r109_6 (.block 2 (.loop l109_1))))) r109_4)) := by kernel_rfl
noncomputable def b109 : Code := (.seq r109_0 (.seq r109_1 (.seq r109_2 (.block 0 (.loop l109_0)))))
theorem body109 : Try.f109.body = some b109 := by kernel_rfl
theorem fn109 : E.fn 109 = some Try.f109 := by kernel_rfl
theorem run109 (args : List D) (h : H) (hl : args.length ≤ 95) : bodyI E 109 args h = resOf E [] (execI E 109 95 b109 ⟨argA args, h⟩) := bodyI_res fn109 body109 rfl rfl args h hl
noncomputable def r60_0 : Code := navF Try.f60 [0]
noncomputable def o60_0 : List Oper := [sop (some 2) (.box 34 (.tmp 0)) none,
    sop (some 3) (.box 34 (.tmp 1)) none,
    sop (some 4) (.alloc 62) none,
    sop (some 5) (.alloc 76) none]
theorem xr60_0 : Xr 60 53 r60_0 o60_0 [] := execI_reg' (by kernel_rfl)
noncomputable def r60_1 : Code := navF Try.f60 [1, 0]
noncomputable def o60_1 : List Oper := [sop (some 10) (.build 105 #[]) none,
    sop (some 11) (.buildSlice 76 1 #[(0, (.tmp 10))]) none,
    sop (some 6) (.alloc 76) none,
    sop none (.store 76 (.tmp 6) (.tmp 11)) none]
theorem xr60_1 : Xr 60 53 r60_1 o60_1 [] := execI_reg' (by kernel_rfl)
noncomputable def r60_2 : Code := navF Try.f60 [1, 1, 0, 0]
noncomputable def o60_2 : List Oper := [sop (some 12) (.load 34 (.tmp 2)) none,
    sop (some 13) (.load 34 (.tmp 3)) none,
    sop (some 14) (.call { callee := (.value (.func 86)), args := #[(.tmp 12), (.tmp 13)], argTypes := #[34, 34] }) none]
theorem xr60_2 : Xr 60 53 r60_2 o60_2 [] := execI_reg' (by kernel_rfl)
noncomputable def g60_0a : Code := navF Try.f60 [1, 1, 0, 1, 0, 0]
noncomputable def g60_0b : Code := navF Try.f60 [1, 1, 0, 1, 0, 1]
noncomputable def r60_3 : Code := navF Try.f60 [1, 1, 0, 1, 0, 0, 0]
noncomputable def o60_3 : List Oper := [sop (some 7) (.alloc 139) none,
    sop none (.store 139 (.tmp 7) (.tmp 15)) none]
theorem xr60_3 : Xr 60 53 r60_3 o60_3 [] := execI_reg' (by kernel_rfl)
noncomputable def r60_4 : Code := navF Try.f60 [1, 1, 0, 1, 0, 0, 1]
noncomputable def o60_4 : List Oper := [sop (some 8) (.assign (.tmp 16)) none]
theorem xr60_4 : Xr 60 53 r60_4 o60_4 [] := execI_reg' (by kernel_rfl)
noncomputable def r60_5 : Code := navF Try.f60 [1, 1, 0, 1, 0, 1, 0, 0, 0]
noncomputable def o60_5 : List Oper := [sop (some 17) (.fieldAddr 139 (.tmp 7) 2) none,
    sop (some 18) (.fieldAddr 55 (.tmp 17) 1) none,
    sop (some 19) (.load 3 (.tmp 18)) none,
    sop (some 20) (.fieldAddr 139 (.tmp 7) 3) none,
    sop (some 21) (.fieldAddr 55 (.tmp 20) 1) none,
    sop (some 22) (.load 3 (.tmp 21)) none,
    sop (some 23) (.binOp .neq 3 (.tmp 19) (.tmp 22) 3) none]
theorem xr60_5 : Xr 60 53 r60_5 o60_5 [] := execI_reg' (by kernel_rfl)
noncomputable def r60_6 : Code := navF Try.f60 [1, 1, 0, 1, 0, 1, 0, 0, 1, 0, 0]
noncomputable def o60_6 : List Oper := [sop (some 24) (.move (.tmp 8)) none,
    sop (some 25) (.fieldAddr 139 (.tmp 7) 0) none,
    sop (some 26) (.load 3 (.tmp 25)) none,
    sop (some 27) (.fieldAddr 139 (.tmp 7) 1) none,
    sop (some 28) (.load 3 (.tmp 27)) none,
    sop (some 29) (.buildSlice 62 1 #[(0, (.tmp 28))]) none,
    sop (some 30) (.call { callee := (.value (.func 87)), args := #[(.tmp 24), (.tmp 26), (.tmp 29)], argTypes := #[140, 3, 62] }) none,
    sop none (.store 62 (.tmp 4) (.tmp 30)) none,
    sop none (.store 76 (.tmp 5) (.const (.slice none 0 0))) none]
theorem xr60_6 : Xr 60 53 r60_6 o60_6 [] := execI_reg' (by kernel_rfl)
noncomputable def r60_7 : Code := navF Try.f60 [1, 1, 0, 1, 0, 1, 0, 1, 0]
noncomputable def o60_7 : List Oper := [sop (some 31) (.fieldAddr 139 (.tmp 7) 2) none,
    sop (some 32) (.fieldAddr 55 (.tmp 31) 0) none,
    sop (some 33) (.load 3 (.tmp 32)) none,
    sop (some 34) (.fieldAddr 139 (.tmp 7) 3) none,
    sop (some 35) (.fieldAddr 55 (.tmp 34) 0) none,
    sop (some 36) (.load 3 (.tmp 35)) none,
    sop (some 37) (.build 105 #[(0, (.tmp 33)), (1, (.tmp 36))]) none,
    sop (some 9) (.alloc 105) none,
    sop none (.store 105 (.tmp 9) (.tmp 37)) none]
theorem xr60_7 : Xr 60 53 r60_7 o60_7 [] := execI_reg' (by kernel_rfl)
noncomputable def r60_8 : Code := navF Try.f60 [1, 1, 0, 1, 0, 1, 0, 1, 1, 0]
noncomputable def o60_8 : List Oper := [sop (some 38) (.fieldAddr 139 (.tmp 7) 2) none,
    sop (some 39) (.fieldAddr 55 (.tmp 38) 0) none,
    sop (some 40) (.load 3 (.tmp 39)) none,
    sop (some 41) (.binOp .neq 3 (.tmp 40) (.const (.int .i64 (-1))) 3) none,
    sop (some 42) (.move (.tmp 41)) none,
    sop (some 43) (.load 76 (.tmp 6)) (some (4, true)),
    sop (some 44) (.load 105 (.tmp 9)) (some (4, true)),
    sop (some 45) (.call { callee := (.value (.func 88)), args := #[(.tmp 43), (.tmp 44)], argTypes := #[76, 105] }) (some (4, true)),
    sop (some 46) (.unOp .not 4 (.tmp 45)) (some (4, true)),
    sop (some 47) (.pick (.tmp 42) (.tmp 46) (.const (.bool false))) none]
theorem xr60_8 : Xr 60 53 r60_8 o60_8 [] := execI_reg' (by kernel_rfl)
noncomputable def r60_9 : Code := navF Try.f60 [1, 1, 0, 1, 0, 1, 0, 1, 1, 1, 0]
noncomputable def o60_9 : List Oper := [sop (some 48) (.load 76 (.tmp 6)) none,
    sop (some 49) (.load 105 (.tmp 9)) none,
    sop (some 50) (.buildSlice 76 1 #[(0, (.tmp 49))]) none,
    sop (some 51) (.call { callee := (.builtin .append), args := #[(.tmp 48), (.tmp 50)], argTypes := #[76, 76] }) none,
    sop none (.store 76 (.tmp 6) (.tmp 51)) none]
theorem xr60_9 : Xr 60 53 r60_9 o60_9 [] := execI_reg' (by kernel_rfl)
theorem cg60_0a : g60_0a = (.seq r60_3 r60_4) := by kernel_rfl
theorem cg60_0b : g60_0b = (.block 1 (.seq (.seq r60_5 (.cond (.tmp 23) (.seq r60_6 .ret) .skip)) (.seq r60_7 (.seq r60_8 (.cond (.tmp 47) r60_9 .skip))))) := by kernel_rfl
noncomputable def r60_10 : Code := navF Try.f60 [1, 1, 1, 0]
noncomputable def o60_10 : List Oper := [sop (some 52) (.load 76 (.tmp 6)) none,
    sop none (.store 62 (.tmp 4) (.const (.slice none 0 0))) none,
    sop none (.store 76 (.tmp 5) (.tmp 52)) none]
theorem xr60_10 : Xr 60 53 r60_10 o60_10 [(0, 1)] := execI_reg' (by kernel_rfl)
noncomputable def b60 : Code := (.seq r60_0 (.seq r60_1 (.seq (.seq r60_2 (.block 0 (.rangeFunc (.tmp 14) #[15, 16] g60_0a g60_0b))) (.seq r60_10 .ret))))
theorem body60 : Try.f60.body = some b60 := by kernel_rfl
theorem fn60 : E.fn 60 = some Try.f60 := by kernel_rfl
theorem run60 (args : List D) (h : H) (hl : args.length ≤ 53) : bodyI E 60 args h = resOf E [(.cell 4 62), (.cell 5 76)] (execI E 60 53 b60 ⟨argA args, h⟩) := bodyI_res fn60 body60 rfl rfl args h hl
noncomputable def r25_0 : Code := navF Try.f25 [0]
noncomputable def o25_0 : List Oper := [sop (some 2) (.box 34 (.tmp 0)) none,
    sop (some 3) (.box 34 (.tmp 1)) none,
    sop (some 4) (.assign (.const (.slice none 0 0))) none,
    sop (some 5) (.assign (.const (.bool false))) none,
    sop (some 6) (.assign (.const (.int .i64 0))) none]
theorem xr25_0 : Xr 25 26 r25_0 o25_0 [] := execI_reg' (by kernel_rfl)
noncomputable def r25_1 : Code := navF Try.f25 [1, 0, 0]
noncomputable def o25_1 : List Oper := [sop (some 10) (.load 34 (.tmp 2)) none,
    sop (some 11) (.load 34 (.tmp 3)) none,
    sop (some 12) (.call { callee := (.value (.func 59)), args := #[(.tmp 10), (.tmp 11)], argTypes := #[34, 34] }) none,
    sop (some 7) (.assign (.tmp 12)) none]
theorem xr25_1 : Xr 25 26 r25_1 o25_1 [] := execI_reg' (by kernel_rfl)
noncomputable def r25_2 : Code := navF Try.f25 [1, 0, 1, 0]
noncomputable def o25_2 : List Oper := [sop (some 13) (.move (.tmp 7)) none,
    sop (some 14) (.binOp .neq 40 (.tmp 13) (.const (.int .i64 0)) 40) none]
theorem xr25_2 : Xr 25 26 r25_2 o25_2 [] := execI_reg' (by kernel_rfl)
noncomputable def r25_3 : Code := navF Try.f25 [1, 0, 1, 1, 0, 0]
noncomputable def r25_4 : Code := navF Try.f25 [1, 1, 0]
noncomputable def o25_4 : List Oper := [sop (some 17) (.load 34 (.tmp 2)) none,
    sop (some 18) (.load 34 (.tmp 3)) none,
    sop (some 19) (.call { callee := (.value (.func 60)), args := #[(.tmp 17), (.tmp 18)], argTypes := #[34, 34] }) none,
    sop (some 16) (.move (.tmp 19)) none,
    sop (some 20) (.extract (.tmp 16) 0) none,
    sop (some 21) (.extract (.tmp 16) 1) none,
    sop (some 8) (.assign (.tmp 20)) none,
    sop (some 9) (.assign (.tmp 21)) none]
theorem xr25_4 : Xr 25 26 r25_4 o25_4 [] := execI_reg' (by kernel_rfl)
noncomputable def r25_5 : Code := navF Try.f25 [1, 1, 1, 0]
noncomputable def o25_5 : List Oper := [sop (some 22) (.move (.tmp 8)) none,
    sop (some 23) (.move (.tmp 8)) none,
    sop (some 24) (.call { callee := (.builtin .len), args := #[(.tmp 23)], argTypes := #[62] }) none,
    sop (some 25) (.binOp .gtr 3 (.tmp 24) (.const (.int .i64 0)) 3) none,
    sop (some 4) (.assign (.tmp 22)) none,
    sop (some 5) (.assign (.tmp 25)) none,
    sop (some 6) (.assign (.const (.int .i64 0))) none]
theorem xr25_5 : Xr 25 26 r25_5 o25_5 [] := execI_reg' (by kernel_rfl)
noncomputable def b25 : Code := (.seq r25_0 (.seq (.seq r25_1 (.seq r25_2 (.cond (.tmp 14) (.seq r25_3 .ret) .skip))) (.seq r25_4 (.seq r25_5 .ret))))
theorem body25 : Try.f25.body = some b25 := by kernel_rfl
theorem fn25 : E.fn 25 = some Try.f25 := by kernel_rfl
theorem run25 (args : List D) (h : H) (hl : args.length ≤ 26) : bodyI E 25 args h = resOf E [(.tmp 4), (.tmp 5), (.tmp 6)] (execI E 25 26 b25 ⟨argA args, h⟩) := bodyI_res fn25 body25 rfl rfl args h hl
noncomputable def r19_0 : Code := navF Try.f19 [0]
noncomputable def o19_0 : List Oper := [sop (some 2) (.box 34 (.tmp 0)) none,
    sop (some 3) (.box 34 (.tmp 1)) none,
    sop (some 4) (.assign (.const (.bool false))) none,
    sop (some 5) (.assign (.const (.int .i64 0))) none]
theorem xr19_0 : Xr 19 23 r19_0 o19_0 [] := execI_reg' (by kernel_rfl)
noncomputable def r19_1 : Code := navF Try.f19 [1, 0]
noncomputable def o19_1 : List Oper := [sop (some 10) (.load 34 (.tmp 2)) none,
    sop (some 11) (.load 34 (.tmp 3)) none,
    sop (some 12) (.call { callee := (.value (.func 25)), args := #[(.tmp 10), (.tmp 11)], argTypes := #[34, 34] }) none,
    sop (some 9) (.move (.tmp 12)) none,
    sop (some 13) (.extract (.tmp 9) 0) none,
    sop (some 14) (.extract (.tmp 9) 1) none,
    sop (some 15) (.extract (.tmp 9) 2) none,
    sop (some 6) (.assign (.tmp 13)) none,
    sop (some 7) (.assign (.tmp 14)) none,
    sop (some 8) (.assign (.tmp 15)) none]
theorem xr19_1 : Xr 19 23 r19_1 o19_1 [] := execI_reg' (by kernel_rfl)
noncomputable def r19_2 : Code := navF Try.f19 [1, 1, 0]
noncomputable def o19_2 : List Oper := [sop (some 16) (.move (.tmp 8)) none,
    sop (some 17) (.binOp .eql 40 (.tmp 16) (.const (.int .i64 0)) 40) none,
    sop (some 18) (.move (.tmp 17)) none,
    sop (some 19) (.move (.tmp 7)) (some (2, true)),
    sop (some 20) (.unOp .not 4 (.tmp 19)) (some (2, true)),
    sop (some 21) (.pick (.tmp 18) (.tmp 20) (.const (.bool false))) none,
    sop (some 22) (.move (.tmp 8)) none,
    sop (some 4) (.assign (.tmp 21)) none,
    sop (some 5) (.assign (.tmp 22)) none]
theorem xr19_2 : Xr 19 23 r19_2 o19_2 [] := execI_reg' (by kernel_rfl)
noncomputable def b19 : Code := (.seq r19_0 (.seq r19_1 (.seq r19_2 .ret)))
theorem body19 : Try.f19.body = some b19 := by kernel_rfl
theorem fn19 : E.fn 19 = some Try.f19 := by kernel_rfl
theorem run19 (args : List D) (h : H) (hl : args.length ≤ 23) : bodyI E 19 args h = resOf E [(.tmp 4), (.tmp 5)] (execI E 19 23 b19 ⟨argA args, h⟩) := bodyI_res fn19 body19 rfl rfl args h hl
noncomputable def r4_0 : Code := navF Try.f4 [0]
noncomputable def o4_0 : List Oper := [sop (some 2) (.box 57 (.tmp 0)) none,
    sop (some 3) (.box 59 (.tmp 1)) none,
    sop (some 4) (.assign (.const (.bool false))) none]
theorem xr4_0 : Xr 4 59 r4_0 o4_0 [] := execI_reg' (by kernel_rfl)
noncomputable def r4_1 : Code := navF Try.f4 [1, 0]
noncomputable def o4_1 : List Oper := [sop (some 13) (.load 57 (.tmp 2)) none,
    sop (some 14) (.call { callee := (.value (.func 17)), args := #[(.tmp 13)], argTypes := #[57] }) none,
    sop (some 12) (.move (.tmp 14)) none,
    sop (some 15) (.extract (.tmp 12) 0) none,
    sop (some 16) (.extract (.tmp 12) 1) none,
    sop (some 5) (.alloc 34) none,
    sop (some 6) (.alloc 34) none,
    sop none (.store 34 (.tmp 5) (.tmp 15)) none,
    sop none (.store 34 (.tmp 6) (.tmp 16)) none]
theorem xr4_1 : Xr 4 59 r4_1 o4_1 [] := execI_reg' (by kernel_rfl)
noncomputable def r4_2 : Code := navF Try.f4 [1, 1, 0]
noncomputable def o4_2 : List Oper := [sop (some 17) (.load 59 (.tmp 3)) none,
    sop (some 18) (.fieldAddr 34 (.tmp 5) 0) none,
    sop (some 19) (.load 3 (.tmp 18)) none,
    sop (some 20) (.call { callee := (.value (.func 18)), args := #[(.tmp 17), (.tmp 19)], argTypes := #[59, 3] }) none,
    sop (some 7) (.assign (.tmp 20)) none]
theorem xr4_2 : Xr 4 59 r4_2 o4_2 [] := execI_reg' (by kernel_rfl)
noncomputable def r4_3 : Code := navF Try.f4 [1, 1, 1, 0]
noncomputable def o4_3 : List Oper := [sop (some 22) (.load 34 (.tmp 5)) none,
    sop (some 23) (.load 34 (.tmp 6)) none,
    sop (some 24) (.call { callee := (.value (.func 19)), args := #[(.tmp 22), (.tmp 23)], argTypes := #[34, 34] }) none,
    sop (some 21) (.move (.tmp 24)) none,
    sop (some 25) (.extract (.tmp 21) 0) none,
    sop (some 26) (.extract (.tmp 21) 1) none,
    sop (some 8) (.assign (.tmp 25)) none,
    sop (some 9) (.assign (.tmp 26)) none]
theorem xr4_3 : Xr 4 59 r4_3 o4_3 [] := execI_reg' (by kernel_rfl)
noncomputable def r4_4 : Code := navF Try.f4 [1, 1, 1, 1, 0]
noncomputable def o4_4 : List Oper := [sop (some 27) (.load 34 (.tmp 5)) none,
    sop (some 28) (.call { callee := (.value (.func 20)), args := #[(.tmp 27)], argTypes := #[34] }) none,
    sop (some 29) (.load 34 (.tmp 6)) none,
    sop (some 30) (.call { callee := (.value (.func 20)), args := #[(.tmp 29)], argTypes := #[34] }) none,
    sop (some 10) (.alloc 34) none,
    sop (some 11) (.alloc 34) none,
    sop none (.store 34 (.tmp 10) (.tmp 28)) none,
    sop none (.store 34 (.tmp 11) (.tmp 30)) none]
theorem xr4_4 : Xr 4 59 r4_4 o4_4 [(0, 2), (1, 2), (0, 4), (1, 4), (2, 4), (3, 4), (0, 5), (1, 5), (2, 5), (3, 5), (4, 5)] := execI_reg' (by kernel_rfl)
noncomputable def r4_5 : Code := navF Try.f4 [1, 1, 1, 1, 1, 0]
noncomputable def o4_5 : List Oper := [sop (some 31) (.fieldAddr 34 (.tmp 10) 1) none,
    sop (some 32) (.load 3 (.tmp 31)) none,
    sop (some 33) (.fieldAddr 34 (.tmp 11) 1) none,
    sop none (.store 3 (.tmp 33) (.tmp 32)) none]
theorem xr4_5 : Xr 4 59 r4_5 o4_5 [] := execI_reg' (by kernel_rfl)
noncomputable def r4_6 : Code := navF Try.f4 [1, 1, 1, 1, 1, 1, 0]
noncomputable def o4_6 : List Oper := [sop (some 34) (.move (.tmp 9)) none,
    sop (some 35) (.binOp .eql 40 (.tmp 34) (.const (.int .i64 0)) 40) none,
    sop (some 36) (.move (.tmp 35)) none,
    sop (some 37) (.move (.tmp 8)) (some (2, true)),
    sop (some 38) (.load 34 (.tmp 10)) (some (2, true)),
    sop (some 39) (.load 34 (.tmp 11)) (some (2, true)),
    sop (some 40) (.call { callee := (.value (.func 16)), args := #[(.tmp 38), (.tmp 39)], argTypes := #[34, 34] }) (some (2, true)),
    sop (some 41) (.binOp .eql 4 (.tmp 37) (.tmp 40) 4) (some (2, true)),
    sop (some 42) (.pick (.tmp 36) (.tmp 41) (.const (.bool false))) none,
    sop (some 43) (.move (.tmp 42)) none,
    sop (some 44) (.move (.tmp 8)) (some (9, true)),
    sop (some 45) (.unOp .not 4 (.tmp 44)) (some (9, true)),
    sop (some 46) (.move (.tmp 45)) (some (9, true)),
    sop (some 47) (.load 34 (.tmp 5)) (some (12, false)),
    sop (some 48) (.move (.tmp 7)) (some (12, false)),
    sop (some 49) (.call { callee := (.value (.func 22)), args := #[(.tmp 47), (.const (.int .i64 0)), (.tmp 48)], argTypes := #[34, 3, 62] }) (some (12, false)),
    sop (some 50) (.load 34 (.tmp 6)) (some (12, false)),
    sop (some 51) (.move (.tmp 7)) (some (12, false)),
    sop (some 52) (.call { callee := (.value (.func 22)), args := #[(.tmp 50), (.const (.int .i64 0)), (.tmp 51)], argTypes := #[34, 3, 62] }) (some (12, false)),
    sop (some 53) (.call { callee := (.value (.func 21)), args := #[(.tmp 49), (.tmp 52)], argTypes := #[62, 62] }) (some (12, false)),
    sop (some 54) (.pick (.tmp 46) (.const (.bool true)) (.tmp 53)) (some (9, true)),
    sop (some 55) (.pick (.tmp 43) (.tmp 54) (.const (.bool false))) none,
    sop (some 56) (.move (.tmp 55)) none,
    sop (some 57) (.call { callee := (.value (.func 23)), args := #[], argTypes := #[] }) (some (22, true)),
    sop (some 58) (.pick (.tmp 56) (.tmp 57) (.const (.bool false))) none,
    sop (some 4) (.assign (.tmp 58)) none]
theorem xr4_6 : Xr 4 59 r4_6 o4_6 [(4, 5), (13, 16), (15, 16)] := execI_reg' (by kernel_rfl)
noncomputable def b4 : Code := (.seq r4_0 (.seq r4_1 (.seq r4_2 (.seq r4_3 (.seq r4_4 (.seq r4_5 (.seq r4_6 .ret)))))))
theorem body4 : Try.f4.body = some b4 := by kernel_rfl
theorem fn4 : E.fn 4 = some Try.f4 := by kernel_rfl
theorem run4 (args : List D) (h : H) (hl : args.length ≤ 59) : bodyI E 4 args h = resOf E [(.tmp 4)] (execI E 4 59 b4 ⟨argA args, h⟩) := bodyI_res fn4 body4 rfl rfl args h hl
end Go.Eng.E3
namespace Go.Eng.E3
open Go Go.Eng Go.Proofs
set_option maxRecDepth 100000
noncomputable def r100_0 : Code := navF Try.f100 [0]
noncomputable def o100_0 : List Oper := [sop (some 4) (.box 34 (.tmp 0)) none,
    sop (some 8) (.assign (.const (.int .i64 0))) none]
theorem xr100_0 : Xr 100 60 r100_0 o100_0 [] := execI_reg' (by kernel_rfl)
noncomputable def r100_1 : Code := navF Try.f100 [1, 0, 0]
noncomputable def o100_1 : List Oper := [sop (some 9) (.assign (.const (.int .i64 0))) none]
theorem xr100_1 : Xr 100 60 r100_1 o100_1 [] := execI_reg' (by kernel_rfl)
noncomputable def l100_0 : Code := navF Try.f100 [1, 0, 1, 0, 0]
noncomputable def r100_2 : Code := navF Try.f100 [1, 0, 1, 0, 0, 0, 0]
noncomputable def o100_2 : List Oper := [sop (some 12) (.move (.tmp 9)) none,
    sop (some 13) (.fieldAddr 34 (.tmp 4) 0) none,
    sop (some 14) (.load 3 (.tmp 13)) none,
    sop (some 15) (.binOp .lss 3 (.tmp 12) (.tmp 14) 3) none]
theorem xr100_2 : Xr 100 60 r100_2 o100_2 [] := execI_reg' (by kernel_rfl)
noncomputable def r100_4 : Code := navF Try.f100 [1, 0, 1, 0, 0, 1, 0, 0, 0]
noncomputable def o100_4 : List Oper := [sop (some 18) (.fieldAddr 34 (.tmp 4) 2) none,
    sop (some 19) (.load 32 (.tmp 18)) none,
    sop (some 20) (.move (.tmp 2)) none,
    sop (some 21) (.indexAddr 32 (.tmp 19) (.tmp 20)) none,
    sop (some 22) (.load 72 (.tmp 21)) none,
    sop (some 23) (.move (.tmp 9)) none,
    sop (some 24) (.indexAddr 72 (.tmp 22) (.tmp 23)) none,
    sop (some 25) (.load 55 (.tmp 24)) none,
    sop (some 26) (.fieldAddr 34 (.tmp 4) 2) none,
    sop (some 27) (.load 32 (.tmp 26)) none,
    sop (some 28) (.move (.tmp 3)) none,
    sop (some 29) (.indexAddr 32 (.tmp 27) (.tmp 28)) none,
    sop (some 30) (.load 72 (.tmp 29)) none,
    sop (some 31) (.move (.tmp 9)) none,
    sop (some 32) (.indexAddr 72 (.tmp 30) (.tmp 31)) none,
    sop (some 33) (.load 55 (.tmp 32)) none,
    sop (some 10) (.alloc 55) none,
    sop (some 11) (.alloc 55) none,
    sop none (.store 55 (.tmp 10) (.tmp 25)) none,
    sop none (.store 55 (.tmp 11) (.tmp 33)) none]
theorem xr100_4 : Xr 100 60 r100_4 o100_4 [(1, 9), (4, 9), (7, 9), (1, 12), (4, 12), (7, 12), (1, 15), (4, 15), (7, 15), (1, 16), (4, 16), (7, 16), (9, 16), (12, 16), (15, 16), (1, 17), (4, 17), (7, 17), (9, 17), (12, 17), (15, 17), (16, 17), (9, 18), (12, 18), (15, 18)] := execI_reg' (by kernel_rfl)
noncomputable def r100_5 : Code := navF Try.f100 [1, 0, 1, 0, 0, 1, 0, 0, 1, 0]
noncomputable def o100_5 : List Oper := [sop (some 34) (.fieldAddr 55 (.tmp 10) 1) none,
    sop (some 35) (.load 3 (.tmp 34)) none,
    sop (some 36) (.fieldAddr 55 (.tmp 11) 1) none,
    sop (some 37) (.load 3 (.tmp 36)) none,
    sop (some 38) (.binOp .neq 3 (.tmp 35) (.tmp 37) 3) none,
    sop (some 39) (.move (.tmp 38)) none,
    sop (some 40) (.fieldAddr 55 (.tmp 10) 0) (some (5, false)),
    sop (some 41) (.load 3 (.tmp 40)) (some (5, false)),
    sop (some 42) (.binOp .geq 3 (.tmp 41) (.const (.int .i64 0)) 3) (some (5, false)),
    sop (some 43) (.move (.tmp 42)) (some (5, false)),
    sop (some 44) (.fieldAddr 55 (.tmp 11) 0) (some (9, true)),
    sop (some 45) (.load 3 (.tmp 44)) (some (9, true)),
    sop (some 46) (.binOp .geq 3 (.tmp 45) (.const (.int .i64 0)) 3) (some (9, true)),
    sop (some 47) (.pick (.tmp 43) (.tmp 46) (.const (.bool false))) (some (5, false)),
    sop (some 48) (.move (.tmp 47)) (some (5, false)),
    sop (some 49) (.move (.tmp 1)) (some (14, true)),
    sop (some 50) (.fieldAddr 55 (.tmp 10) 0) (some (14, true)),
    sop (some 51) (.load 3 (.tmp 50)) (some (14, true)),
    sop (some 52) (.indexAddr 127 (.tmp 49) (.tmp 51)) (some (14, true)),
    sop (some 53) (.load 123 (.tmp 52)) (some (14, true)),
    sop (some 54) (.fieldAddr 55 (.tmp 11) 0) (some (14, true)),
    sop (some 55) (.load 3 (.tmp 54)) (some (14, true)),
    sop (some 56) (.indexAddr 123 (.tmp 53) (.tmp 55)) (some (14, true)),
    sop (some 57) (.load 4 (.tmp 56)) (some (14, true)),
    sop (some 58) (.pick (.tmp 48) (.tmp 57) (.const (.bool false))) (some (5, false)),
    sop (some 59) (.pick (.tmp 39) (.const (.bool true)) (.tmp 58)) none]
theorem xr100_5 : Xr 100 60 r100_5 o100_5 [(1, 3), (17, 21), (19, 21)] := execI_reg' (by kernel_rfl)
noncomputable def r100_6 : Code := navF Try.f100 [1, 0, 1, 0, 0, 1, 0, 0, 1, 1, 0, 0]
noncomputable def o100_6 : List Oper := [sop (some 8) (.assign (.const (.int .i64 1))) none]
theorem xr100_6 : Xr 100 60 r100_6 o100_6 [] := execI_reg' (by kernel_rfl)
noncomputable def r100_3 : Code := navF Try.f100 [1, 0, 1, 0, 0, 1, 1]
noncomputable def o100_3 : List Oper := [sop (some 16) (.move (.tmp 9)) none,
    sop (some 17) (.binOp .add 3 (.tmp 16) (.const (.int .i64 1)) 3) none,
    sop (some 9) (.assign (.tmp 17)) none]
theorem xr100_3 : Xr 100 60 r100_3 o100_3 [] := execI_reg' (by kernel_rfl)
theorem cl100_0 : l100_0 = (.seq (.seq r100_2 (.cond (.tmp 15) .skip (.exit 0))) (.seq (.block 1 (.seq r100_4 (.seq r100_5 (.cond (.tmp 59) (.seq r100_6 .ret) .skip)))) r100_3)) := by kernel_rfl
noncomputable def r100_7 : Code := navF Try.f100 [1, 1, 0]
noncomputable def o100_7 : List Oper := [sop (some 8) (.assign (.const (.int .i64 0))) none]
theorem xr100_7 : Xr 100 60 r100_7 o100_7 [] := execI_reg' (by kernel_rfl)
noncomputable def b100 : Code := (.seq r100_0 (.seq (.seq r100_1 (.block 0 (.loop l100_0))) (.seq r100_7 .ret)))
theorem body100 : Try.f100.body = some b100 := by kernel_rfl
theorem fn100 : E.fn 100 = some Try.f100 := by kernel_rfl
theorem run100 (args : List D) (h : H) (hl : args.length ≤ 60) : bodyI E 100 args h = resOf E [(.tmp 8)] (execI E 100 60 b100 ⟨argA args, h⟩) := bodyI_res fn100 body100 rfl rfl args h hl
noncomputable def r74_0 : Code := navF Try.f74 [0]
noncomputable def o74_0 : List Oper := [sop (some 2) (.box 34 (.tmp 0)) none,
    sop (some 4) (.assign (.const (.slice none 0 0))) none]
theorem xr74_0 : Xr 74 68 r74_0 o74_0 [] := execI_reg' (by kernel_rfl)
noncomputable def r74_1 : Code := navF Try.f74 [1, 0]
noncomputable def o74_1 : List Oper := [sop (some 12) (.fieldAddr 34 (.tmp 2) 2) none,
    sop (some 13) (.load 32 (.tmp 12)) none,
    sop (some 14) (.call { callee := (.builtin .len), args := #[(.tmp 13)], argTypes := #[32] }) none,
    sop (some 5) (.assign (.tmp 14)) none]
theorem xr74_1 : Xr 74 68 r74_1 o74_1 [] := execI_reg' (by kernel_rfl)
noncomputable def r74_2 : Code := navF Try.f74 [1, 1, 0]
noncomputable def o74_2 : List Oper := [sop (some 6) (.assign (.const (.slice none 0 0))) none]
theorem xr74_2 : Xr 74 68 r74_2 o74_2 [] := execI_reg' (by kernel_rfl)
noncomputable def r74_3 : Code := navF Try.f74 [1, 1, 1, 0, 0]
noncomputable def o74_3 : List Oper := [sop (some 7) (.assign (.const (.int .i64 0))) none]
theorem xr74_3 : Xr 74 68 r74_3 o74_3 [] := execI_reg' (by kernel_rfl)
noncomputable def l74_0 : Code := navF Try.f74 [1, 1, 1, 0, 1, 0, 0]
noncomputable def r74_4 : Code := navF Try.f74 [1, 1, 1, 0, 1, 0, 0, 0, 0]
noncomputable def o74_4 : List Oper := [sop (some 15) (.move (.tmp 7)) none,
    sop (some 16) (.move (.tmp 5)) none,
    sop (some 17) (.binOp .lss 3 (.tmp 15) (.tmp 16) 3) none]
theorem xr74_4 : Xr 74 68 r74_4 o74_4 [] := execI_reg' (by kernel_rfl)
noncomputable def r74_6 : Code := navF Try.f74 [1, 1, 1, 0, 1, 0, 0, 1, 0, 0]
noncomputable def o74_6 : List Oper := [sop (some 20) (.move (.tmp 6)) none,
    sop (some 21) (.move (.tmp 5)) none,
    sop (some 22) (.makeSlice 123 (.tmp 21) (.tmp 21)) none,
    sop (some 23) (.buildSlice 127 1 #[(0, (.tmp 22))]) none,
    sop (some 24) (.call { callee := (.builtin .append), args := #[(.tmp 20), (.tmp 23)], argTypes := #[127, 127] }) none,
    sop (some 6) (.assign (.tmp 24)) none]
theorem xr74_6 : Xr 74 68 r74_6 o74_6 [] := execI_reg' (by kernel_rfl)
noncomputable def r74_5 : Code := navF Try.f74 [1, 1, 1, 0, 1, 0, 0, 1, 1]
noncomputable def o74_5 : List Oper := [sop (some 18) (.move (.tmp 7)) none,
    sop (some 19) (.binOp .add 3 (.tmp 18) (.const (.int .i64 1)) 3) none,
    sop (some 7) (.assign (.tmp 19)) none]
theorem xr74_5 : Xr 74 68 r74_5 o74_5 [] := execI_reg' (by kernel_rfl)
theorem cl74_0 : l74_0 = (.seq (.seq r74_4 (.cond (.tmp 17) .skip (.exit 0))) (.seq (.block 1 r74_6) r74_5)) := by kernel_rfl
noncomputable def r74_7 : Code := navF Try.f74 [1, 1, 1, 1, 0, 0]
noncomputable def o74_7 : List Oper := [sop (some 8) (.assign (.const (.int .i64 0))) none]
theorem xr74_7 : Xr 74 68 r74_7 o74_7 [] := execI_reg' (by kernel_rfl)
noncomputable def l74_1 : Code := navF Try.f74 [1, 1, 1, 1, 0, 1, 0, 0]
noncomputable def r74_8 : Code := navF Try.f74 [1, 1, 1, 1, 0, 1, 0, 0, 0, 0]
noncomputable def o74_8 : List Oper := [sop (some 25) (.move (.tmp 8)) none,
    sop (some 26) (.move (.tmp 1)) none,
    sop (some 27) (.binOp .lss 3 (.tmp 25) (.tmp 26) 3) none]
theorem xr74_8 : Xr 74 68 r74_8 o74_8 [] := execI_reg' (by kernel_rfl)
noncomputable def r74_10 : Code := navF Try.f74 [1, 1, 1, 1, 0, 1, 0, 0, 1, 0, 0, 0]
noncomputable def o74_10 : List Oper := [sop (some 9) (.assign (.const (.slice none 0 0))) none]
theorem xr74_10 : Xr 74 68 r74_10 o74_10 [] := execI_reg' (by kernel_rfl)
noncomputable def r74_11 : Code := navF Try.f74 [1, 1, 1, 1, 0, 1, 0, 0, 1, 0, 0, 1, 0, 0]
noncomputable def o74_11 : List Oper := [sop (some 10) (.assign (.const (.int .i64 0))) none]
theorem xr74_11 : Xr 74 68 r74_11 o74_11 [] := execI_reg' (by kernel_rfl)
noncomputable def l74_2 : Code := navF Try.f74 [1, 1, 1, 1, 0, 1, 0, 0, 1, 0, 0, 1, 0, 1, 0, 0]
noncomputable def r74_12 : Code := navF Try.f74 [1, 1, 1, 1, 0, 1, 0, 0, 1, 0, 0, 1, 0, 1, 0, 0, 0, 0]
noncomputable def o74_12 : List Oper := [sop (some 30) (.move (.tmp 10)) none,
    sop (some 31) (.move (.tmp 5)) none,
    sop (some 32) (.binOp .lss 3 (.tmp 30) (.tmp 31) 3) none]
theorem xr74_12 : Xr 74 68 r74_12 o74_12 [] := execI_reg' (by kernel_rfl)
noncomputable def r74_14 : Code := navF Try.f74 [1, 1, 1, 1, 0, 1, 0, 0, 1, 0, 0, 1, 0, 1, 0, 0, 1, 0, 0, 0]
noncomputable def o74_14 : List Oper := [sop (some 35) (.move (.tmp 9)) none,
    sop (some 36) (.move (.tmp 5)) none,
    sop (some 37) (.makeSlice 123 (.tmp 36) (.tmp 36)) none,
    sop (some 38) (.buildSlice 127 1 #[(0, (.tmp 37))]) none,
    sop (some 39) (.call { callee := (.builtin .append), args := #[(.tmp 35), (.tmp 38)], argTypes := #[127, 127] }) none,
    sop (some 9) (.assign (.tmp 39)) none]
theorem xr74_14 : Xr 74 68 r74_14 o74_14 [] := execI_reg' (by kernel_rfl)
noncomputable def r74_15 : Code := navF Try.f74 [1, 1, 1, 1, 0, 1, 0, 0, 1, 0, 0, 1, 0, 1, 0, 0, 1, 0, 0, 1, 0]
noncomputable def o74_15 : List Oper := [sop (some 11) (.assign (.const (.int .i64 0))) none]
theorem xr74_15 : Xr 74 68 r74_15 o74_15 [] := execI_reg' (by kernel_rfl)
noncomputable def l74_3 : Code := navF Try.f74 [1, 1, 1, 1, 0, 1, 0, 0, 1, 0, 0, 1, 0, 1, 0, 0, 1, 0, 0, 1, 1, 0, 0]
noncomputable def r74_16 : Code := navF Try.f74 [1, 1, 1, 1, 0, 1, 0, 0, 1, 0, 0, 1, 0, 1, 0, 0, 1, 0, 0, 1, 1, 0, 0, 0, 0]
noncomputable def o74_16 : List Oper := [sop (some 40) (.move (.tmp 11)) none,
    sop (some 41) (.move (.tmp 5)) none,
    sop (some 42) (.binOp .lss 3 (.tmp 40) (.tmp 41) 3) none]
theorem xr74_16 : Xr 74 68 r74_16 o74_16 [] := execI_reg' (by kernel_rfl)
noncomputable def r74_18 : Code := navF Try.f74 [1, 1, 1, 1, 0, 1, 0, 0, 1, 0, 0, 1, 0, 1, 0, 0, 1, 0, 0, 1, 1, 0, 0, 1, 0, 0]
noncomputable def o74_18 : List Oper := [sop (some 45) (.move (.tmp 9)) none,
    sop (some 46) (.move (.tmp 10)) none,
    sop (some 47) (.indexAddr 127 (.tmp 45) (.tmp 46)) none,
    sop (some 48) (.load 123 (.tmp 47)) none,
    sop (some 49) (.move (.tmp 11)) none,
    sop (some 50) (.move (.tmp 6)) none,
    sop (some 51) (.move (.tmp 10)) none,
    sop (some 52) (.indexAddr 127 (.tmp 50) (.tmp 51)) none,
    sop (some 53) (.load 123 (.tmp 52)) none,
    sop (some 54) (.move (.tmp 11)) none,
    sop (some 55) (.indexAddr 123 (.tmp 53) (.tmp 54)) none,
    sop (some 56) (.load 4 (.tmp 55)) none,
    sop (some 57) (.move (.tmp 56)) none,
    sop (some 58) (.load 34 (.tmp 2)) (some (12, false)),
    sop (some 59) (.move (.tmp 6)) (some (12, false)),
    sop (some 60) (.move (.tmp 10)) (some (12, false)),
    sop (some 61) (.move (.tmp 11)) (some (12, false)),
    sop (some 62) (.call { callee := (.value (.func 100)), args := #[(.tmp 58), (.tmp 59), (.tmp 60), (.tmp 61)], argTypes := #[34, 127, 3, 3] }) (some (12, false)),
    sop (some 63) (.binOp .eql 3 (.tmp 62) (.const (.int .i64 1)) 3) (some (12, false)),
    sop (some 64) (.pick (.tmp 57) (.const (.bool true)) (.tmp 63)) none,
    sop (some 65) (.indexAddr 123 (.tmp 48) (.tmp 49)) none,
    sop none (.store 4 (.tmp 65) (.tmp 64)) none]
theorem xr74_18 : Xr 74 68 r74_18 o74_18 [(3, 8), (3, 11), (3, 13), (3, 17)] := execI_reg' (by kernel_rfl)
noncomputable def r74_17 : Code := navF Try.f74 [1, 1, 1, 1, 0, 1, 0, 0, 1, 0, 0, 1, 0, 1, 0, 0, 1, 0, 0, 1, 1, 0, 0, 1, 1]
noncomputable def o74_17 : List Oper := [sop (some 43) (.move (.tmp 11)) none,
    sop (some 44) (.binOp .add 3 (.tmp 43) (.const (.int .i64 1)) 3) none,
    sop (some 11) (.assign (.tmp 44)) none]
theorem xr74_17 : Xr 74 68 r74_17 o74_17 [] := execI_reg' (by kernel_rfl)
theorem cl74_3 : l74_3 = (.seq (.seq r74_16 (.cond (.tmp 42) .skip (.exit 6))) (.seq (.block 7 r74_18) r74_17)) := by kernel_rfl
noncomputable def r74_13 : Code := navF Try.f74 [1, 1, 1, 1, 0, 1, 0, 0, 1, 0, 0, 1, 0, 1, 0, 0, 1, 1]
noncomputable def o74_13 : List Oper := [sop (some 33) (.move (.tmp 10)) none,
    sop (some 34) (.binOp .add 3 (.tmp 33) (.const (.int .i64 1)) 3) none,
    sop (some 10) (.assign (.tmp 34)) none]
theorem xr74_13 : Xr 74 68 r74_13 o74_13 [] := execI_reg' (by kernel_rfl)
theorem cl74_2 : l74_2 = (.seq (.seq r74_12 (.cond (.tmp 32) .skip (.exit 4))) (.seq (.block 5 (.seq r74_14 (.seq r74_15 (.block 6 (.loop l74_3))))) r74_13)) := by kernel_rfl
noncomputable def r74_19 : Code := navF Try.f74 [1, 1, 1, 1, 0, 1, 0, 0, 1, 0, 0, 1, 1]
noncomputable def o74_19 : List Oper := [sop (some 66) (.move (.tmp 9)) none,
    sop (some 6) (.assign (.tmp 66)) none]
theorem xr74_19 : Xr 74 68 r74_19 o74_19 [] := execI_reg' (by kernel_rfl)
noncomputable def r74_9 : Code := navF Try.f74 [1, 1, 1, 1, 0, 1, 0, 0, 1, 1]
noncomputable def o74_9 : List Oper := [sop (some 28) (.move (.tmp 8)) none,
    sop (some 29) (.binOp .add 3 (.tmp 28) (.const (.int .i64 1)) 3) none,
    sop (some 8) (.assign (.tmp 29)) none]
theorem xr74_9 : Xr 74 68 r74_9 o74_9 [] := execI_reg' (by kernel_rfl)
theorem cl74_1 : l74_1 = (.seq (.seq r74_8 (.cond (.tmp 27) .skip (.exit 2))) (.seq (.block 3 (.seq r74_10 (.seq (.seq r74_11 (.block 4 (.loop l74_2))) r74_19))) r74_9)) := by kernel_rfl
noncomputable def r74_20 : Code := navF Try.f74 [1, 1, 1, 1, 1, 0]
noncomputable def o74_20 : List Oper := [sop (some 67) (.move (.tmp 6)) none,
    sop (some 4) (.assign (.tmp 67)) none]
theorem xr74_20 : Xr 74 68 r74_20 o74_20 [] := execI_reg' (by kernel_rfl)
noncomputable def b74 : Code := (.seq r74_0 (.seq r74_1 (.seq r74_2 (.seq (.seq r74_3 (.block 0 (.loop l74_0))) (.seq (.seq r74_7 (.block 2 (.loop l74_1))) (.seq r74_20 .ret))))))
theorem body74 : Try.f74.body = some b74 := by kernel_rfl
theorem fn74 : E.fn 74 = some Try.f74 := by kernel_rfl
theorem run74 (args : List D) (h : H) (hl : args.length ≤ 68) : bodyI E 74 args h = resOf E [(.tmp 4)] (execI E 74 68 b74 ⟨argA args, h⟩) := bodyI_res fn74 body74 rfl rfl args h hl
noncomputable def r101_0 : Code := navF Try.f101 [0]
noncomputable def o101_0 : List Oper := [sop (some 2) (.box 34 (.tmp 0)) none,
    sop (some 4) (.assign (.const (.slice none 0 0))) none]
theorem xr101_0 : Xr 101 9 r101_0 o101_0 [] := execI_reg' (by kernel_rfl)
noncomputable def r101_1 : Code := navF Try.f101 [1, 0]
noncomputable def o101_1 : List Oper := [sop (some 5) (.load 34 (.tmp 2)) none,
    sop (some 6) (.move (.tmp 1)) none,
    sop (some 7) (.call { callee := (.value (.func 74)), args := #[(.tmp 5), (.tmp 6)], argTypes := #[34, 3] }) none,
    sop (some 8) (.call { callee := (.value (.func 122)), args := #[(.tmp 7)], argTypes := #[127] }) none,
    sop (some 4) (.assign (.tmp 8)) none]
theorem xr101_1 : Xr 101 9 r101_1 o101_1 [] := execI_reg' (by kernel_rfl)
noncomputable def b101 : Code := (.seq r101_0 (.seq r101_1 .ret))
theorem body101 : Try.f101.body = some b101 := by kernel_rfl
theorem fn101 : E.fn 101 = some Try.f101 := by kernel_rfl
theorem run101 (args : List D) (h : H) (hl : args.length ≤ 9) : bodyI E 101 args h = resOf E [(.tmp 4)] (execI E 101 9 b101 ⟨argA args, h⟩) := bodyI_res fn101 body101 rfl rfl args h hl
noncomputable def r77_0 : Code := navF Try.f77 [0]
noncomputable def o77_0 : List Oper := [sop (some 1) (.box 34 (.tmp 0)) none,
    sop (some 2) (.assign (.const (.slice none 0 0))) none]
theorem xr77_0 : Xr 77 8 r77_0 o77_0 [] := execI_reg' (by kernel_rfl)
noncomputable def r77_1 : Code := navF Try.f77 [1, 0]
noncomputable def o77_1 : List Oper := [sop (some 3) (.load 34 (.tmp 1)) none,
    sop (some 4) (.fieldAddr 34 (.tmp 1) 2) none,
    sop (some 5) (.load 32 (.tmp 4)) none,
    sop (some 6) (.call { callee := (.builtin .len), args := #[(.tmp 5)], argTypes := #[32] }) none,
    sop (some 7) (.call { callee := (.value (.func 101)), args := #[(.tmp 3), (.tmp 6)], argTypes := #[34, 3] }) none,
    sop (some 2) (.assign (.tmp 7)) none]
theorem xr77_1 : Xr 77 8 r77_1 o77_1 [] := execI_reg' (by kernel_rfl)
noncomputable def b77 : Code := (.seq r77_0 (.seq r77_1 .ret))
theorem body77 : Try.f77.body = some b77 := by kernel_rfl
theorem fn77 : E.fn 77 = some Try.f77 := by kernel_rfl
theorem run77 (args : List D) (h : H) (hl : args.length ≤ 8) : bodyI E 77 args h = resOf E [(.tmp 2)] (execI E 77 8 b77 ⟨argA args, h⟩) := bodyI_res fn77 body77 rfl rfl args h hl
noncomputable def r122_0 : Code := navF Try.f122 [0]
noncomputable def o122_0 : List Oper := [sop (some 2) (.assign (.const (.slice none 0 0))) none]
theorem xr122_0 : Xr 122 41 r122_0 o122_0 [] := execI_reg' (by kernel_rfl)
noncomputable def r122_1 : Code := navF Try.f122 [1, 0]
noncomputable def o122_1 : List Oper := [sop (some 3) (.assign (.const (.slice none 0 0))) none]
theorem xr122_1 : Xr 122 41 r122_1 o122_1 [] := execI_reg' (by kernel_rfl)
noncomputable def r122_2 : Code := navF Try.f122 [1, 1, 0]
noncomputable def o122_2 : List Oper := [sop (some 4) (.assign (.const (.int .i64 0))) none]
theorem xr122_2 : Xr 122 41 r122_2 o122_2 [] := execI_reg' (by kernel_rfl)
noncomputable def r122_3 : Code := navF Try.f122 [1, 1, 1, 0, 0]
noncomputable def o122_3 : List Oper := [sop (some 5) (.assign (.const (.int .i64 0))) none]
theorem xr122_3 : Xr 122 41 r122_3 o122_3 [] := execI_reg' (by kernel_rfl)
noncomputable def l122_0 : Code := navF Try.f122 [1, 1, 1, 0, 1, 0, 0]
noncomputable def r122_4 : Code := navF Try.f122 [1, 1, 1, 0, 1, 0, 0, 0, 0]
noncomputable def o122_4 : List Oper := [sop (some 8) (.move (.tmp 5)) none,
    sop (some 9) (.move (.tmp 0)) none,
    sop (some 10) (.call { callee := (.builtin .len), args := #[(.tmp 9)], argTypes := #[127] }) none,
    sop (some 11) (.binOp .lss 3 (.tmp 8) (.tmp 10) 3) none]
theorem xr122_4 : Xr 122 41 r122_4 o122_4 [] := execI_reg' (by kernel_rfl)
noncomputable def r122_6 : Code := navF Try.f122 [1, 1, 1, 0, 1, 0, 0, 1, 0, 0, 0]
noncomputable def o122_6 : List Oper := [sop (some 6) (.assign (.const (.int .i64 (-1)))) none]
theorem xr122_6 : Xr 122 41 r122_6 o122_6 [] := execI_reg' (by kernel_rfl)
noncomputable def r122_7 : Code := navF Try.f122 [1, 1, 1, 0, 1, 0, 0, 1, 0, 0, 1, 0, 0]
noncomputable def o122_7 : List Oper := [sop (some 7) (.assign (.const (.int .i64 0))) none]
theorem xr122_7 : Xr 122 41 r122_7 o122_7 [] := execI_reg' (by kernel_rfl)
noncomputable def l122_1 : Code := navF Try.f122 [1, 1, 1, 0, 1, 0, 0, 1, 0, 0, 1, 0, 1, 0, 0]
noncomputable def r122_8 : Code := navF Try.f122 [1, 1, 1, 0, 1, 0, 0, 1, 0, 0, 1, 0, 1, 0, 0, 0, 0]
noncomputable def o122_8 : List Oper := [sop (some 14) (.move (.tmp 7)) none,
    sop (some 15) (.move (.tmp 5)) none,
    sop (some 16) (.binOp .lss 3 (.tmp 14) (.tmp 15) 3) none]
theorem xr122_8 : Xr 122 41 r122_8 o122_8 [] := execI_reg' (by kernel_rfl)
noncomputable def r122_10 : Code := navF Try.f122 [1, 1, 1, 0, 1, 0, 0, 1, 0, 0, 1, 0, 1, 0, 0, 1, 0, 0, 0]
noncomputable def o122_10 : List Oper := [sop (some 19) (.move (.tmp 0)) none,
    sop (some 20) (.move (.tmp 5)) none,
    sop (some 21) (.indexAddr 127 (.tmp 19) (.tmp 20)) none,
    sop (some 22) (.load 123 (.tmp 21)) none,
    sop (some 23) (.move (.tmp 7)) none,
    sop (some 24) (.indexAddr 123 (.tmp 22) (.tmp 23)) none,
    sop (some 25) (.load 4 (.tmp 24)) none,
    sop (some 26) (.unOp .not 4 (.tmp 25)) none]
theorem xr122_10 : Xr 122 41 r122_10 o122_10 [] := execI_reg' (by kernel_rfl)
noncomputable def r122_11 : Code := navF Try.f122 [1, 1, 1, 0, 1, 0, 0, 1, 0, 0, 1, 0, 1, 0, 0, 1, 0, 0, 1, 0]
noncomputable def o122_11 : List Oper := [sop (some 27) (.move (.tmp 3)) none,
    sop (some 28) (.move (.tmp 7)) none,
    sop (some 29) (.indexAddr 62 (.tmp 27) (.tmp 28)) none,
    sop (some 30) (.load 3 (.tmp 29)) none,
    sop (some 6) (.assign (.tmp 30)) none]
theorem xr122_11 : Xr 122 41 r122_11 o122_11 [] := execI_reg' (by kernel_rfl)
noncomputable def r122_9 : Code := navF Try.f122 [1, 1, 1, 0, 1, 0, 0, 1, 0, 0, 1, 0, 1, 0, 0, 1, 1]
noncomputable def o122_9 : List Oper := [sop (some 17) (.move (.tmp 7)) none,
    sop (some 18) (.binOp .add 3 (.tmp 17) (.const (.int .i64 1)) 3) none,
    sop (some 7) (.assign (.tmp 18)) none]
theorem xr122_9 : Xr 122 41 r122_9 o122_9 [] := execI_reg' (by kernel_rfl)
theorem cl122_1 : l122_1 = (.seq (.seq r122_8 (.cond (.tmp 16) .skip (.exit 2))) (.seq (.block 3 (.seq r122_10 (.cond (.tmp 26) r122_11 .skip))) r122_9)) := by kernel_rfl
noncomputable def r122_12 : Code := navF Try.f122 [1, 1, 1, 0, 1, 0, 0, 1, 0, 0, 1, 1, 0, 0]
noncomputable def o122_12 : List Oper := [sop (some 31) (.move (.tmp 6)) none,
    sop (some 32) (.binOp .lss 3 (.tmp 31) (.const (.int .i64 0)) 3) none]
theorem xr122_12 : Xr 122 41 r122_12 o122_12 [] := execI_reg' (by kernel_rfl)
noncomputable def r122_13 : Code := navF Try.f122 [1, 1, 1, 0, 1, 0, 0, 1, 0, 0, 1, 1, 0, 1, 0, 0]
noncomputable def o122_13 : List Oper := [sop (some 33) (.move (.tmp 4)) none,
    sop (some 6) (.assign (.tmp 33)) none]
theorem xr122_13 : Xr 122 41 r122_13 o122_13 [] := execI_reg' (by kernel_rfl)
noncomputable def r122_14 : Code := navF Try.f122 [1, 1, 1, 0, 1, 0, 0, 1, 0, 0, 1, 1, 0, 1, 0, 1]
noncomputable def o122_14 : List Oper := [sop (some 34) (.move (.tmp 4)) none,
    sop (some 35) (.binOp .add 3 (.tmp 34) (.const (.int .i64 1)) 3) none,
    sop (some 4) (.assign (.tmp 35)) none]
theorem xr122_14 : Xr 122 41 r122_14 o122_14 [] := execI_reg' (by kernel_rfl)
noncomputable def r122_15 : Code := navF Try.f122 [1, 1, 1, 0, 1, 0, 0, 1, 0, 0, 1, 1, 1]
noncomputable def o122_15 : List Oper := [sop (some 36) (.move (.tmp 3)) none,
    sop (some 37) (.move (.tmp 6)) none,
    sop (some 38) (.buildSlice 62 1 #[(0, (.tmp 37))]) none,
    sop (some 39) (.call { callee := (.builtin .append), args := #[(.tmp 36), (.tmp 38)], argTypes := #[62, 62] }) none,
    sop (some 3) (.assign (.tmp 39)) none]
theorem xr122_15 : Xr 122 41 r122_15 o122_15 [] := execI_reg' (by kernel_rfl)
noncomputable def r122_5 : Code := navF Try.f122 [1, 1, 1, 0, 1, 0, 0, 1, 1]
noncomputable def o122_5 : List Oper := [sop (some 12) (.move (.tmp 5)) none,
    sop (some 13) (.binOp .add 3 (.tmp 12) (.const (.int .i64 1)) 3) none,
    sop (some 5) (.assign (.tmp 13)) none]
theorem xr122_5 : Xr 122 41 r122_5 o122_5 [] := execI_reg' (by kernel_rfl)
theorem cl122_0 : l122_0 = (.seq (.seq r122_4 (.cond (.tmp 11) .skip (.exit 0))) (.seq (.block 1 (.seq r122_6 (.seq (.seq r122_7 (.block 2 (.loop l122_1))) (.seq (.seq r122_12 (.cond (.tmp 32) (.seq r122_13 r122_14) .skip)) r122_15)))) r122_5)) := by kernel_rfl
noncomputable def r122_16 : Code := navF Try.f122 [1, 1, 1, 1, 0]
noncomputable def o122_16 : List Oper := [sop (some 40) (.move (.tmp 3)) none,
    sop (some 2) (.assign (.tmp 40)) none]
theorem xr122_16 : Xr 122 41 r122_16 o122_16 [] := execI_reg' (by kernel_rfl)
noncomputable def b122 : Code := (.seq r122_0 (.seq r122_1 (.seq r122_2 (.seq (.seq r122_3 (.block 0 (.loop l122_0))) (.seq r122_16 .ret)))))
theorem body122 : Try.f122.body = some b122 := by kernel_rfl
theorem fn122 : E.fn 122 = some Try.f122 := by kernel_rfl
theorem run122 (args : List D) (h : H) (hl : args.length ≤ 41) : bodyI E 122 args h = resOf E [(.tmp 2)] (execI E 122 41 b122 ⟨argA args, h⟩) := bodyI_res fn122 body122 rfl rfl args h hl
end Go.Eng.E3
namespace Go.Eng.E3
open Go Go.Eng Go.Proofs
set_option maxRecDepth 100000
def pD (p : Int × Int) : D := .agg [.int .i64 p.1, .int .i64 p.2]
theorem wrap_id {x : Int} (h1 : -9223372036854775808 ≤ x) (h2 : x < 9223372036854775808) : IntKind.i64.wrap x = x := by
  have e1 : ((2 : Int) ^ 64) = 18446744073709551616 := by decide
  have e2 : ((2 : Int) ^ (64 - 1)) = 9223372036854775808 := by decide
  simp only [IntKind.wrap, IntKind.bits, IntKind.signed, e1, e2, Bool.true_and]
  split
  · rename_i h; have := of_decide_eq_true h; omega
  · rename_i h; have := of_decide_eq_false (Bool.eq_false_iff.2 h); omega
theorem eqD3 (n : Nat) (a b : Int) : eqD E.T (n + 1) 3 (.int .i64 a) (.int .i64 b) = some (a == b) := by
  unfold eqD
  rw [if_pos ok_3, desc_3]
  rfl
theorem allD2 {α : Type} {a b : α} {f : α → Option Bool} {x y : Bool} (ha : f a = some x) (hb : f b = some y) : allD f [a, b] = some (x && y) := by
  simp only [allD, ha, hb]
  cases x <;> cases y <;> rfl
theorem part3a (a b : Int) : partD E.T 3 [.int .i64 a, .int .i64 b] 0 = some (.int .i64 a) := by
  unfold partD; rw [if_pos ok_3, agg_3]; rfl
theorem part3b (a b : Int) : partD E.T 3 [.int .i64 a, .int .i64 b] 1 = some (.int .i64 b) := by
  unfold partD; rw [if_pos ok_3, agg_3]; rfl
theorem and_dec (a b c d : Int) : ((a == c) && (b == d)) = decide (a = c ∧ b = d) := by
  by_cases h1 : a = c <;> by_cases h2 : b = d <;> simp [h1, h2]
theorem eqD105 (a b c d : Int) : eqD E.T eqDepth 105 (.agg [.int .i64 a, .int .i64 b]) (.agg [.int .i64 c, .int .i64 d]) = some (decide (a = c ∧ b = d)) := by
  rw [← and_dec]
  show eqD E.T (7 + 1) _ _ _ = _
  unfold eqD
  rw [if_pos ok_105, desc_105]
  show (if E.T.ok 3 = true then _ else _) = _
  rw [if_pos ok_3]
  refine allD2 (a := 0) (b := 1) ?_ ?_
  · rw [size_3, show (0 * 1 : Nat) = 0 from rfl, part3a, part3a]; exact eqD3 6 a c
  · rw [size_3, show (1 * 1 : Nat) = 1 from rfl, part3b, part3b]; exact eqD3 6 b d
theorem eqD55 (a b c d : Int) : eqD E.T eqDepth 55 (.agg [.int .i64 a, .int .i64 b]) (.agg [.int .i64 c, .int .i64 d]) = some (decide (a = c ∧ b = d)) := by
  rw [← and_dec]
  show eqD E.T (7 + 1) _ _ _ = _
  unfold eqD
  rw [if_pos ok_55, desc_55]
  refine allD2 (a := _) (b := _) ?_ ?_
  · rw [if_neg (by decide)]
    dsimp only
    rw [part3a, part3a]; exact eqD3 6 a c
  · rw [if_neg (by decide)]
    dsimp only
    rw [part3b, part3b]; exact eqD3 6 b d
@[simp] theorem bin105 (a b c d : Int) : binD E.T .eql 105 (.agg [.int .i64 a, .int .i64 b]) (.agg [.int .i64 c, .int .i64 d]) = some (.bool (decide (a = c ∧ b = d))) := by
  simp only [binD, eqD105, Option.map_some]
@[simp] theorem bin55 (a b c d : Int) : binD E.T .eql 55 (.agg [.int .i64 a, .int .i64 b]) (.agg [.int .i64 c, .int .i64 d]) = some (.bool (decide (a = c ∧ b = d))) := by
  simp only [binD, eqD55, Option.map_some]
@[simp] theorem binInt (op : BinOp) (t : TypeId) (k : IntKind) (a b : Int) : binD E.T op t (.int k a) (.int k b) = if isShift op then shiftD op k a b else arith op k a b := by
  simp only [binD, if_true]
noncomputable def bodyR (g : FuncId) (xs : List D) : Option D := match bodyI E g xs H.empty with
  | some (r, h) => (snap true h.blk snapDepth r).map (·.1)
  | none => none
theorem modelOk_of {g : FuncId} {m : List D → Option D} (h : ∀ xs r, m xs = some r → bodyR g xs = some r) : ModelOk E g m := fun xs r hm => by
  have := h xs r hm
  unfold bodyR at this
  split at this
  · rename_i r0 h1 hb
    obtain ⟨p, hp, rfl⟩ := Option.map_eq_some_iff.1 this
    exact ⟨r0, h1, p.2, hb, hp⟩
  · cases this
theorem call_pure {g : FuncId} {args xs : List D} {h : H} {r : D} (hp : E.pol.pure g = true) (hs : mapK (snap (E.pol.args g) h.blk snapDepth) args = some (xs, [])) (hb : bodyR g xs = some r) :
    callI E (.fn g []) args h = some (r, h, {}) := by
  rw [callI_fn, if_pos hp, List.append_nil]
  unfold pureCall
  rw [hs]
  unfold bodyR at hb
  simp only
  split at hb
  · rename_i r0 h1 hb1
    obtain ⟨p, hq, rfl⟩ := Option.map_eq_some_iff.1 hb
    rw [hb1]
    simp only
    rw [show snap (E.pol.keep g) h1.blk snapDepth r0 = some (p.1, p.2) from hq]
    rfl
  · cases hb
theorem bodyR_V {g : FuncId} {N : Nat} {rs : List ResultVar} {c : Code} {args : List D} {r : D} (hb : bodyI E g args H.empty = resOf E rs (execI E g N c ⟨argA args, H.empty⟩))
    (hv : V E g N c ⟨argA args, H.empty⟩ ⟨fun s => ∃ v, resultsD E rs s = some v ∧ (snap true s.h.blk snapDepth v).map (·.1) = some r, fun s => ∃ v, resultsD E rs s = some v ∧ (snap true s.h.blk snapDepth v).map (·.1) = some r, fun _ _ => False, fun _ _ => False⟩) :
    bodyR g args = some r := by
  obtain ⟨v, h', h1, h2⟩ := body_V (P := fun v h => (snap true h.blk snapDepth v).map (·.1) = some r) hb hv
  unfold bodyR
  rw [h1]
  exact h2
end Go.Eng.E3
namespace Go.Eng.E3
open Go Go.Eng Go.Proofs
set_option maxRecDepth 100000
attribute [local simp] execR runOps stepOp wantedD evalOp opd upd St.put Eff.apply upds looseOk FP.free FP.idle apart Eff.fp ofVal loadD storeD partD setPart indexAddrD isShift arith unD callOp mapO D.okc pickD buildable buildD placeD convD
set_option linter.unusedSimpArgs false
structure M where
  ins : Nat
  outs : Nat
  rows : List (List (Int × Int))
def rowD (r : List (Int × Int)) : D := .frz (r.map pD) .unk
def encM (m : M) : D := .agg [.int .i64 m.ins, .int .i64 m.outs, .frz (m.rows.map rowD) .unk]
def EdgeOk (m : M) (e : Int × Int) : Prop := e = (-1, -1) ∨ (0 ≤ e.1 ∧ e.1 < m.rows.length ∧ 0 ≤ e.2 ∧ e.2 < m.outs)
structure Valid (m : M) : Prop where
  i1 : 1 ≤ m.ins
  i2 : m.ins ≤ 16
  o1 : 1 ≤ m.outs
  o2 : m.outs ≤ 16
  r1 : 1 ≤ m.rows.length
  r2 : m.rows.length ≤ 64
  len : ∀ r ∈ m.rows, r.length = m.ins
  ok : ∀ r ∈ m.rows, ∀ e ∈ r, EdgeOk m e
theorem mapK_map {α : Type} {f : D → Option (D × List Nat)} {g : α → D} : ∀ l : List α, (∀ x ∈ l, f (g x) = some (g x, [])) → mapK f (l.map g) = some (l.map g, [])
  | [], _ => rfl
  | x :: l, h => by
    rw [List.map_cons, mapK, h x (List.mem_cons_self ..)]
    simp only
    rw [mapK_map l fun y hy => h y (List.mem_cons_of_mem _ hy)]
    rfl
section
variable (kp : Bool) (blk : Nat → Blk) (n : Nat)
theorem snap_int (k : IntKind) (x : Int) : snap kp blk (n + 1) (.int k x) = some (.int k x, []) := rfl
theorem snap_pD (p : Int × Int) : snap kp blk (n + 2) (pD p) = some (pD p, []) := rfl
theorem snap_pairs (l : List (Int × Int)) (tk : Tok) : snap kp blk (n + 3) (.frz (l.map pD) tk) = some (.frz (l.map pD) (tk.fade kp), []) := by
  show (match mapK (snap false blk (n + 2)) (l.map pD) with | some (ys, k) => some (D.frz ys (tk.fade kp), k) | none => none) = _
  rw [mapK_map l fun x _ => snap_pD false blk n x]
theorem snap_ints (l : List Int) (tk : Tok) : snap kp blk (n + 2) (.frz (l.map (D.int .i64)) tk) = some (.frz (l.map (D.int .i64)) (tk.fade kp), []) := by
  show (match mapK (snap false blk (n + 1)) (l.map (D.int .i64)) with | some (ys, k) => some (D.frz ys (tk.fade kp), k) | none => none) = _
  rw [mapK_map l fun x _ => snap_int false blk n .i64 x]
theorem snap_rowD (r : List (Int × Int)) : snap kp blk (n + 3) (rowD r) = some (rowD r, []) := snap_pairs kp blk n r .unk
theorem snap_rows (l : List (List (Int × Int))) : snap kp blk (n + 4) (.frz (l.map rowD) .unk) = some (.frz (l.map rowD) .unk, []) := by
  show (match mapK (snap false blk (n + 3)) (l.map rowD) with | some (ys, k) => some (D.frz ys (Tok.fade kp .unk), k) | none => none) = _
  rw [mapK_map l fun x _ => snap_rowD false blk n x]
  rfl
theorem snap_encM (m : M) : snap kp blk (n + 5) (encM m) = some (encM m, []) := by
  show (match mapK (snap kp blk (n + 4)) [.int .i64 m.ins, .int .i64 m.outs, .frz (m.rows.map rowD) .unk] with | some (ys, k) => some (D.agg ys, k) | none => none) = _
  simp only [mapK, snap_rows]
  rfl
end
theorem call_cap {g : FuncId} {args cap xs : List D} {h : H} {r : D} {ks : List Nat} (hp : E.pol.pure g = true) (hs : mapK (snap (E.pol.args g) h.blk snapDepth) (args ++ cap) = some (xs, ks)) (hb : bodyR g xs = some r) (hf : ks.isEmpty = false → r.flat snapDepth = true) :
    callI E (.fn g cap) args h = some (r, h, if ks.isEmpty then {} else { rd := ks }) := by
  rw [callI_fn, if_pos hp]
  unfold pureCall
  rw [hs]
  unfold bodyR at hb
  simp only
  split at hb
  · rename_i r0 h1 hb1
    obtain ⟨p, hq, rfl⟩ := Option.map_eq_some_iff.1 hb
    rw [hb1]
    simp only
    rw [show snap (E.pol.keep g) h1.blk snapDepth r0 = some (p.1, p.2) from hq]
    simp only
    cases hk : ks.isEmpty with
    | true => rfl
    | false =>
      rw [if_neg (by simp), if_pos (hf hk)]
      rfl
  · cases hb
theorem snap_iref (kp : Bool) (blk : Nat → Blk) (n : Nat) {v : D} (hv : snap false blk n v = some (v, [])) : snap kp blk (n + 1) (.iref v) = some (.iref v, []) := by
  show (match snap false blk n v with | some (y, k) => some (D.iref y, k) | none => none) = _
  rw [hv]
theorem snap_ptr (kp : Bool) (blk : Nat → Blk) (n : Nat) {b e : Nat} {v : D} (hb : blk b = .live e [v]) (hv : snap false blk n v = some (v, [])) : snap kp blk (n + 1) (.ptr b 0 0) = some (.iref v, [b]) := by
  show (match (blk b).row with | some (_, [x]) => (match snap false blk n x with | some (y, k) => some (D.iref y, b :: k) | none => none) | _ => none) = _
  rw [hb]
  simp only [row_live]
  rw [hv]
theorem snap_fn1 (kp : Bool) (blk : Nat → Blk) (n : Nat) {f : FuncId} {c c' : D} {k : List Nat} (hc : snap kp blk n c = some (c', k)) : snap kp blk (n + 1) (.fn f [c]) = some (.fn f [c'], k) := by
  show (match mapK (snap kp blk n) [c] with | some (ys, k) => some (D.fn f ys, k) | none => none) = _
  simp only [mapK, hc, List.append_nil]
theorem snaps1 {ka : Bool} {blk : Nat → Blk} {a : D} (h : snap ka blk snapDepth a = some (a, [])) : mapK (snap ka blk snapDepth) [a] = some ([a], []) := by
  simp only [mapK, h]; rfl
theorem snaps2 {ka : Bool} {blk : Nat → Blk} {a b : D} (h : snap ka blk snapDepth a = some (a, [])) (h' : snap ka blk snapDepth b = some (b, [])) : mapK (snap ka blk snapDepth) [a, b] = some ([a, b], []) := by
  simp only [mapK, h, h']; rfl
theorem snaps3 {ka : Bool} {blk : Nat → Blk} {a b c : D} (h : snap ka blk snapDepth a = some (a, [])) (h' : snap ka blk snapDepth b = some (b, [])) (h'' : snap ka blk snapDepth c = some (c, [])) : mapK (snap ka blk snapDepth) [a, b, c] = some ([a, b, c], []) := by
  simp only [mapK, h, h', h'']; rfl
end Go.Eng.E3
namespace Go.Eng.E3
open Go Go.Eng Go.Proofs
set_option maxRecDepth 100000
attribute [local simp] execR runOps stepOp wantedD evalOp opd upd St.put Eff.apply upds looseOk FP.free FP.idle apart Eff.fp ofVal loadD storeD partD setPart indexAddrD isShift arith unD callOp mapO D.okc pickD buildable buildD placeD convD
set_option linter.unusedSimpArgs false
set_option maxHeartbeats 2000000
def edge (m : M) (s i : Nat) : Int × Int := (m.rows.getD s []).getD i (0, 0)
def mget (mk : List (List Bool)) (a b : Nat) : Bool := (mk.getD a []).getD b false
def apartAt (m : M) (mk : List (List Bool)) (s t i : Nat) : Bool :=
  !decide ((edge m s i).2 = (edge m t i).2) || (decide (0 ≤ (edge m s i).1) && (decide (0 ≤ (edge m t i).1) && mget mk (edge m s i).1.toNat (edge m t i).1.toNat))
def apartN (m : M) (mk : List (List Bool)) (s t : Nat) : Nat → Nat → Bool
  | 0, _ => false
  | k + 1, i => apartAt m mk s t i || apartN m mk s t k (i + 1)
def boolRow (r : List Bool) : D := .frz (r.map D.bool) .unk
def markD (mk : List (List Bool)) : D := .frz (mk.map boolRow) .unk
structure Sq (n : Nat) (mk : List (List Bool)) : Prop where
  l : mk.length = n
  r : ∀ x ∈ mk, x.length = n
structure I100 (m : M) (mk : List (List Bool)) (s t : Nat) (k : Nat) (st : St) : Prop where
  le : k ≤ m.ins
  h1 : st.A 1 = .frz (mk.map boolRow) .unk
  h2 : st.A 2 = .int .i64 s
  h3 : st.A 3 = .int .i64 t
  h4 : st.A 4 = .ptr 0 0 0
  h9 : st.A 9 = .int .i64 ((m.ins - k : Nat) : Int)
  hb : st.h.blk 0 = .live 3 [encM m]
  hn : 0 < st.h.next
  no : apartN m mk s t m.ins 0 = apartN m mk s t k (m.ins - k)
theorem spec100 {m : M} {mk : List (List Bool)} {s t : Nat} (hv : Valid m) (hk : Sq m.rows.length mk) (hs : s < m.rows.length) (ht : t < m.rows.length) :
    bodyR 100 [encM m, markD mk, .int .i64 s, .int .i64 t] = some (.int .i64 (if apartN m mk s t m.ins 0 then 1 else 0)) := by
  have i2 := hv.i2
  refine bodyR_V (run100 _ _ (by simp)) ?_
  unfold b100
  refine .then xr100_0 (by simp [o100_0, builtinD, lenD, pD, argA, encM, markD]; rfl) ?_
  refine .assoc (.then xr100_1 (by simp [o100_1, builtinD, lenD, pD, argA]; rfl) ?_)
  refine .seq (.block (V.count (I100 m mk s t) ?_ ?_ m.ins _ ⟨Nat.le_refl _, by simp [upd, argA], by simp [upd, argA], by simp [upd, argA], by simp [upd], by simp [upd], by simp [upd, encM], by simp, by simp⟩))
  · rintro k ⟨A, h⟩ ⟨le, h1, h2, h3, h4, h9, hb, hn, no⟩
    have hlt : m.ins - (k + 1) < m.ins := by omega
    generalize hi : m.ins - (k + 1) = i at *
    have hk' : m.ins - k = i + 1 := by omega
    have hw : IntKind.i64.wrap ((i : Int) + 1) = ((i + 1 : Nat) : Int) := by rw [wrap_id] <;> omega
    have hls : i < m.rows[s].length := by rw [hv.len _ (List.getElem_mem hs)]; exact hlt
    have hlt' : i < m.rows[t].length := by rw [hv.len _ (List.getElem_mem ht)]; exact hlt
    have es : edge m s i = m.rows[s][i] := by simp [edge, hs, hls]
    have et : edge m t i = m.rows[t][i] := by simp [edge, ht, hlt']
    simp only at h1 h2 h3 h4 h9 hb hn
    have hb0 : ∀ j, (0 = h.next + j) = False := fun j => by simp; omega
    have hb1 : (0 = h.next) = False := by simp; omega
    rw [cl100_0]
    refine .assoc (.then xr100_2 (by simp [o100_2, builtinD, lenD, pD, argA, h9, h4, hb, encM]; rfl) ?_)
    refine .head (by simp [opd, upd]; rfl) (fun _ => ?_) (fun hf => by simp [hlt] at hf)
    refine .seq (.block (.then xr100_4 (by simp [o100_4, builtinD, lenD, pD, argA, h1, h2, h3, h4, h9, hb, encM, hs, ht, hls, hlt', hb0, hb1, rowD]; rfl) ?_))
    have hxo := hv.ok _ (List.getElem_mem hs) _ (List.getElem_mem hls)
    have hyo := hv.ok _ (List.getElem_mem ht) _ (List.getElem_mem hlt')
    generalize m.rows[s][i] = x at *
    generalize m.rows[t][i] = y at *
    have fin : ∀ (A' : Nat → D) (h' : H) (v : Bool) (Q : Po), A' 59 = .bool v → apartAt m mk s t i = v → A' 1 = A 1 → A' 2 = A 2 → A' 3 = A 3 → A' 4 = A 4 → A' 9 = A 9 → h'.blk 0 = h.blk 0 → 0 < h'.next →
        (∀ st, st.A 8 = .int .i64 1 → apartN m mk s t m.ins 0 = true → Q.r st) → (∀ st, I100 m mk s t k st → Q.n st) →
        V E 100 60 (.cond (.tmp 59) (.seq r100_6 .ret) .skip) ⟨A', h'⟩ ((Q.upto fun s' => V E 100 60 r100_3 s' Q).within 1) := by
      intro A' h' v Q e59 ev e1 e2 e3 e4 e9 eb en hr hn'
      refine .cond (v := v) (by simp [opd, e59]) (fun hvt => ?_) (fun hvf => .skip ?_)
      · refine .then xr100_6 (by simp [o100_6, builtinD, lenD, pD, argA]; rfl) (.ret (hr _ (by simp [upd]) ?_))
        rw [no, apartN, ev, hvt]; rfl
      · refine .reg xr100_3 (by simp [o100_3, builtinD, lenD, pD, argA, e9, h9]; rfl) (hn' _ ⟨by omega, ?_, ?_, ?_, ?_, ?_, ?_, ?_, ?_⟩)
        · simp [upd, e1, h1]
        · simp [upd, e2, h2]
        · simp [upd, e3, h3]
        · simp [upd, e4, h4]
        · simp [upd, hk', hw]
        · simp [upds, eb, hb]
        · simp <;> omega
        · rw [no, apartN, ev, hvf, hk']; rfl
    have hres : ∀ st : St, st.A 8 = .int .i64 1 → apartN m mk s t m.ins 0 = true → ∃ v, resultsD E [.tmp 8] st = some v ∧ (snap true st.h.blk snapDepth v).map (·.1) = some (.int .i64 (if apartN m mk s t m.ins 0 = true then 1 else 0)) := fun st e8 ea =>
      ⟨_, by simp [resultsD, mapO, resultD, e8]; rfl, by simp [snap, snapDepth, ea]⟩
    by_cases c1 : x.2 = y.2
    · by_cases c2 : 0 ≤ x.1
      · by_cases c3 : 0 ≤ y.1
        · have hxa : x.1.toNat < mk.length := by rw [hk.l]; rcases hxo with rfl | hxo; · simp at c2
                                                 omega
          have hra : mk[x.1.toNat].length = m.rows.length := hk.r _ (List.getElem_mem hxa)
          have hyb : y.1.toNat < mk[x.1.toNat].length := by rw [hra]; rcases hyo with rfl | hyo; · simp at c3
                                                            omega
          have hxi : x.1 < (mk.length : Int) := by omega
          have hyi : y.1 < (mk[x.1.toNat].length : Int) := by omega
          refine .then xr100_5 (by simp [o100_5, builtinD, lenD, pD, argA, c1, c2, c3, hxa, hyb, hxi, hyi, boolRow, h1, hb0, hb1]; rfl) ?_
          refine fin _ _ mk[x.1.toNat][y.1.toNat] _ ?_ ?_ ?_ ?_ ?_ ?_ ?_ ?_ ?_ (fun st e8 ea => hres st e8 ea) (fun st hst => hst)
          · simp [upd]
          · simp [apartAt, es, et, c1, c2, c3, mget, hxa, hyb]
          · simp [upd]
          · simp [upd]
          · simp [upd]
          · simp [upd]
          · simp [upd]
          · simp [upd, upds, hb0]
          · simp <;> omega
        · refine .then xr100_5 (by simp [o100_5, builtinD, lenD, pD, argA, c1, c2, c3, h1, hb0, hb1]; rfl) ?_
          refine fin _ _ false _ ?_ ?_ ?_ ?_ ?_ ?_ ?_ ?_ ?_ (fun st e8 ea => hres st e8 ea) (fun st hst => hst)
          · simp [upd]
          · simp [apartAt, es, et, c1, c2, c3]
          · simp [upd]
          · simp [upd]
          · simp [upd]
          · simp [upd]
          · simp [upd]
          · simp [upd, upds, hb0]
          · simp <;> omega
      · refine .then xr100_5 (by simp [o100_5, builtinD, lenD, pD, argA, c1, c2, h1, hb0, hb1]; rfl) ?_
        refine fin _ _ false _ ?_ ?_ ?_ ?_ ?_ ?_ ?_ ?_ ?_ (fun st e8 ea => hres st e8 ea) (fun st hst => hst)
        · simp [upd]
        · simp [apartAt, es, et, c1, c2]
        · simp [upd]
        · simp [upd]
        · simp [upd]
        · simp [upd]
        · simp [upd]
        · simp [upd, upds, hb0]
        · simp <;> omega
    · have c1b : (x.2 != y.2) = true := by simp [c1]
      refine .then xr100_5 (by simp [o100_5, builtinD, lenD, pD, argA, c1b, h1, hb0, hb1]; rfl) ?_
      refine fin _ _ true _ ?_ ?_ ?_ ?_ ?_ ?_ ?_ ?_ ?_ (fun st e8 ea => hres st e8 ea) (fun st hst => hst)
      · simp [upd]
      · simp [apartAt, es, et, c1]
      · simp [upd]
      · simp [upd]
      · simp [upd]
      · simp [upd]
      · simp [upd]
      · simp [upd, upds, hb0]
      · simp <;> omega
  · rintro ⟨A, h⟩ ⟨le, h1, h2, h3, h4, h9, hb, hn, no⟩
    simp only at h1 h2 h3 h4 h9 hb hn
    rw [cl100_0]
    refine .assoc (.then xr100_2 (by simp [o100_2, builtinD, lenD, pD, argA, h9, h4, hb, encM]; rfl) ?_)
    refine .head (by simp [opd, upd]; rfl) (fun hf => by simp at hf) (fun _ => ?_)
    refine .then xr100_7 (by simp [o100_7, builtinD, lenD, pD, argA]; rfl) (.ret ⟨_, by simp [resultsD, mapO, resultD, upd]; rfl, ?_⟩)
    rw [no]
    simp [snap, snapDepth, apartN]
theorem snap_mark (kp : Bool) (blk : Nat → Blk) (n : Nat) (mk : List (List Bool)) : snap kp blk (n + 3) (markD mk) = some (markD mk, []) := by
  have hr : ∀ r : List Bool, snap false blk (n + 2) (boolRow r) = some (boolRow r, []) := fun r => by
    show (match mapK (snap false blk (n + 1)) (r.map D.bool) with | some (ys, k) => some (D.frz ys (Tok.fade false .unk), k) | none => none) = _
    rw [mapK_map r fun x _ => rfl]
    rfl
  show (match mapK (snap false blk (n + 2)) (mk.map boolRow) with | some (ys, k) => some (D.frz ys (Tok.fade kp .unk), k) | none => none) = _
  rw [mapK_map mk fun x _ => hr x]
  rfl
end Go.Eng.E3
namespace Go.Eng.E3
open Go Go.Eng Go.Proofs
set_option maxRecDepth 100000
attribute [local simp] execR runOps stepOp wantedD evalOp opd upd St.put Eff.apply upds looseOk FP.free FP.idle apart Eff.fp ofVal loadD storeD partD setPart indexAddrD isShift arith unD callOp mapO D.okc pickD buildable buildD placeD convD
set_option linter.unusedSimpArgs false
def rowV (n c : Nat) : D := .sl c 1 0 n true
def Mat (h : H) (v : D) (mk : List (List Bool)) (n lo hi : Nat) : Prop :=
  (mk = [] ∧ v = .frz [] .nil) ∨ ∃ (b : Nat) (bs : List Nat) (_ : Unit), v = .sl b 1 0 mk.length false ∧ h.blk b = .live 1 (bs.map (rowV n)) ∧ bs.length = mk.length ∧ lo ≤ b ∧ b < hi ∧
    (∀ c ∈ bs, lo ≤ c ∧ c < hi ∧ c ≠ b) ∧ bs.Nodup ∧ ∀ (i c : Nat) (r : List Bool), bs[i]? = some c → mk[i]? = some r → h.blk c = .live 1 (r.map .bool) ∧ r.length = n
theorem Mat.frame {h h' : H} {v : D} {mk : List (List Bool)} {n lo hi : Nat} (m : Mat h v mk n lo hi) (e : ∀ b, lo ≤ b → b < hi → h'.blk b = h.blk b) : Mat h' v mk n lo hi := by
  rcases m with m | ⟨b, bs, ex, h1, h2, h3, h4, h5, h6, h7, h8⟩
  · exact .inl m
  · refine .inr ⟨b, bs, ex, h1, by rw [e b h4 h5]; exact h2, h3, h4, h5, h6, h7, fun i c r hc hr => ?_⟩
    obtain ⟨q1, q2, _⟩ := h6 c (List.mem_of_getElem? hc)
    rw [e c q1 q2]
    exact h8 i c r hc hr
theorem Mat.wide {h : H} {v : D} {mk : List (List Bool)} {n lo hi hi' : Nat} (m : Mat h v mk n lo hi) (e : hi ≤ hi') : Mat h v mk n lo hi' := by
  rcases m with m | ⟨b, bs, ex, h1, h2, h3, h4, h5, h6, h7, h8⟩
  · exact .inl m
  · exact .inr ⟨b, bs, ex, h1, h2, h3, h4, by omega, fun c hc => ⟨(h6 c hc).1, by have := (h6 c hc).2.1; omega, (h6 c hc).2.2⟩, h7, h8⟩
theorem Mat.nx {h : H} {v : D} {mk : List (List Bool)} {n lo hi hi' : Nat} (m : Mat h v mk n lo hi) (k : Nat) (e : hi ≤ hi') : Mat ⟨k, h.blk⟩ v mk n lo hi' := (m.frame fun _ _ _ => rfl).wide e
theorem mapK_two {α β : Type} {f : D → Option (D × List Nat)} {g : α → D} {u : β → D} : ∀ (xs : List α) (bs : List β), xs.length = bs.length → (∀ (i : Nat) (a : α) (b : β), xs[i]? = some a → bs[i]? = some b → ∃ k, f (g a) = some (u b, k)) → ∃ k, mapK f (xs.map g) = some (bs.map u, k)
  | [], [], _, _ => ⟨[], rfl⟩
  | [], _ :: _, h, _ => by simp at h
  | _ :: _, [], h, _ => by simp at h
  | a :: xs, b :: bs, h, hf => by
    obtain ⟨k1, h1⟩ := hf 0 a b rfl rfl
    obtain ⟨k2, h2⟩ := mapK_two xs bs (by simpa using h) (fun i a b ha hb => hf (i + 1) a b (by simpa using ha) (by simpa using hb))
    exact ⟨k1 ++ k2, by rw [List.map_cons, mapK, h1]; simp only; rw [h2]; rfl⟩
theorem Mat.snap {h : H} {v : D} {mk : List (List Bool)} {n lo hi : Nat} (m : Mat h v mk n lo hi) (kp : Bool) (k : Nat) : ∃ (ks : List Nat) (tk : Tok), Eng.snap kp h.blk (k + 3) v = some (.frz (mk.map boolRow) tk, ks) ∧ (kp = false ∨ mk ≠ [] → tk = .unk) := by
  rcases m with ⟨rfl, rfl⟩ | ⟨b, bs, ex, rfl, h2, h3, h4, h5, h6, h7, h8⟩
  · exact ⟨[], _, rfl, fun hk => Or.elim hk (fun e => by rw [e]; rfl) (fun e => absurd rfl e)⟩
  · have hrow : ∀ (i c : Nat) (r : List Bool), bs[i]? = some c → mk[i]? = some r → ∃ q, Eng.snap false h.blk (k + 2) (rowV n c) = some (boolRow r, q) := fun i c r hc hr => by
      obtain ⟨e1, e2⟩ := h8 i c r hc hr
      refine ⟨[c], ?_⟩
      show (match (h.blk c).row with | some (e, xs) => (if e = 1 ∧ 0 + n ≤ xs.length then (match mapK (Eng.snap false h.blk (k + 1)) ((xs.drop 0).take n) with | some (ys, k) => some (D.frz ys (if false && true then .exact else .unk), c :: k) | none => none) else none) | none => none) = _
      rw [e1]
      simp only [row_live, List.length_map, List.drop_zero]
      rw [if_pos ⟨trivial, by omega⟩, List.take_of_length_le (by simp; omega), mapK_map r fun x _ => rfl]
      rfl
    obtain ⟨q, hq⟩ := mapK_two (f := Eng.snap false h.blk (k + 2)) (g := rowV n) (u := boolRow) bs mk h3 hrow
    refine ⟨b :: q, .unk, ?_, fun _ => rfl⟩
    show (match (h.blk b).row with | some (e, xs) => (if e = 1 ∧ 0 + mk.length ≤ xs.length then (match mapK (Eng.snap false h.blk (k + 2)) ((xs.drop 0).take mk.length) with | some (ys, k) => some (D.frz ys (if kp && false then .exact else .unk), b :: k) | none => none) else none) | none => none) = _
    rw [h2]
    simp only [row_live, List.length_map, List.drop_zero]
    rw [if_pos ⟨trivial, by omega⟩, List.take_of_length_le (by simp; omega), hq]
    simp only [Bool.and_false, Bool.false_eq_true, if_false]
theorem Mat.push {h h' : H} {v : D} {mk : List (List Bool)} {n lo hi s c : Nat} {r : List Bool} (m : Mat h v mk n lo hi) (hh : lo ≤ hi) (hc : hi ≤ c) (hs : hi ≤ s) (hcs : c ≠ s) (hr : r.length = n) (hb : h'.blk c = .live 1 (r.map .bool))
    (hrest : ∀ b, lo ≤ b → b < hi → v ≠ .sl b 1 0 mk.length false → h'.blk b = h.blk b)
    (hsb : h'.blk s = .live 1 ((match v with | .sl b _ _ _ _ => (match h.blk b with | .live _ xs => xs | _ => []) | _ => []) ++ [rowV n c])) : Mat h' (.sl s 1 0 (mk.length + 1) false) (mk ++ [r]) n lo (max c s + 1) := by
  rcases m with ⟨rfl, rfl⟩ | ⟨b, bs, ex, rfl, h2, h3, h4, h5, h6, h7, h8⟩
  · refine .inr ⟨s, [c], (), rfl, hsb, rfl, by omega, by omega, fun x hx => ?_, by simp, fun i x y hx hy => ?_⟩
    · simp at hx; subst hx; exact ⟨by omega, by omega, hcs⟩
    · cases i with
      | zero => simp at hx hy; subst hx; subst hy; exact ⟨hb, hr⟩
      | succ i => simp at hx
  · have hcn : c ∉ bs := fun hx => by have := (h6 c hx).2.1; omega
    refine .inr ⟨s, bs ++ [c], (), by simp, ?_, by simp [h3], by omega, by omega, fun x hx => ?_, ?_, fun i x y hx hy => ?_⟩
    · rw [hsb]; simp only [h2]; simp
    · rcases List.mem_append.1 hx with hx | hx
      · have := h6 x hx; exact ⟨this.1, by omega, by omega⟩
      · simp at hx; subst hx; exact ⟨by omega, by omega, hcs⟩
    · rw [List.nodup_append]
      exact ⟨h7, by simp, fun a ha b hb e => by simp at hb; subst hb; subst e; exact hcn ha⟩
    · rcases Nat.lt_or_ge i bs.length with hi | hi
      · rw [List.getElem?_append_left hi] at hx
        rw [List.getElem?_append_left (by omega)] at hy
        have hq := h8 i x y hx hy
        have hm := h6 x (List.mem_of_getElem? hx)
        rw [hrest x hm.1 hm.2.1 (fun he => by injection he with he1; exact hm.2.2 he1.symm)]
        exact hq
      · rw [List.getElem?_append_right hi] at hx
        rw [List.getElem?_append_right (by omega), ← h3] at hy
        cases hj : i - bs.length with
        | zero => rw [hj] at hx hy; simp at hx hy; subst hx; subst hy; exact ⟨hb, hr⟩
        | succ j => rw [hj] at hx; simp at hx
theorem Mat.put {h h' : H} {b ln n lo hi i c : Nat} {bs : List Nat} {mk : List (List Bool)} {r : List Bool} (m : Mat h (.sl b 1 0 ln false) mk n lo hi) (hbs : h.blk b = .live 1 (bs.map (rowV n))) (hc : bs[i]? = some c) (hi' : i < mk.length)
    (hr : r.length = n) (hb : h'.blk c = .live 1 (r.map .bool)) (hrest : ∀ x, x ≠ c → h'.blk x = h.blk x) : Mat h' (.sl b 1 0 ln false) (mk.set i r) n lo hi := by
  rcases m with ⟨_, hv⟩ | ⟨b', bs', ex', hv, h2, h3, h4, h5, h6, h7, h8⟩
  · cases hv
  · injection hv with e1 _ _ e2 _
    subst e1; subst e2
    have : bs' = bs := by
      rw [hbs] at h2
      injection h2 with _ h2
      have inj : ∀ (x y : List Nat), x.map (rowV n) = y.map (rowV n) → x = y := by
        intro x
        induction x with
        | nil => intro y hy; cases y with
          | nil => rfl
          | cons _ _ => simp at hy
        | cons a x ih => intro y hy; cases y with
          | nil => simp at hy
          | cons d y =>
            rw [List.map_cons, List.map_cons] at hy
            injection hy with hy1 hy2
            injection hy1 with hy1
            rw [hy1, ih y hy2]
      exact (inj _ _ h2).symm
    subst this
    have hcb : c ≠ b := (h6 c (List.mem_of_getElem? hc)).2.2
    refine .inr ⟨b, bs', (), by simp, by rw [hrest b (fun e => hcb e.symm)]; exact h2, by simp [h3], h4, h5, h6, h7, fun j x y hx hy => ?_⟩
    by_cases hj : j = i
    · subst hj
      rw [List.getElem?_set_self hi'] at hy
      rw [hc] at hx
      cases hx; cases hy
      exact ⟨hb, hr⟩
    · rw [List.getElem?_set_ne (fun e => hj e.symm)] at hy
      have hne : x ≠ c := fun e => by
        subst e
        have i1 : j < bs'.length := (List.getElem?_eq_some_iff.1 hx).1
        have := (List.getElem?_inj i1 h7).1 (hx.trans hc.symm)
        exact hj this
      rw [hrest x hne]
      exact h8 j x y hx hy
end Go.Eng.E3
namespace Go.Eng.E3
open Go Go.Eng Go.Proofs
set_option maxRecDepth 100000
attribute [local simp] execR runOps stepOp wantedD evalOp opd upd St.put Eff.apply upds looseOk FP.free FP.idle apart Eff.fp ofVal loadD storeD partD setPart indexAddrD isShift arith unD callOp mapO D.okc pickD buildable buildD placeD convD
set_option linter.unusedSimpArgs false
set_option maxHeartbeats 2000000
def zeroM (n : Nat) : List (List Bool) := List.replicate n (List.replicate n false)
def cellM (m : M) (mk : List (List Bool)) (s t : Nat) : Bool := mget mk s t || apartN m mk s t m.ins 0
def stepM (m : M) (mk : List (List Bool)) : List (List Bool) := (List.range m.rows.length).map fun s => (List.range m.rows.length).map fun t => cellM m mk s t
def markN (m : M) : Nat → List (List Bool)
  | 0 => zeroM m.rows.length
  | k + 1 => stepM m (markN m k)
theorem sq_step (m : M) (mk : List (List Bool)) : Sq m.rows.length (stepM m mk) := ⟨by simp [stepM], fun x hx => by simp [stepM] at hx; obtain ⟨_, _, rfl⟩ := hx; simp⟩
theorem sq_mark (m : M) : ∀ k, Sq m.rows.length (markN m k)
  | 0 => ⟨by simp [markN, zeroM], fun x hx => by simp [markN, zeroM] at hx; rw [hx.2]; simp⟩
  | k + 1 => sq_step m _
theorem call100 {m : M} {mk : List (List Bool)} {s t : Nat} (hv : Valid m) (hk : Sq m.rows.length mk) (hs : s < m.rows.length) (ht : t < m.rows.length) {h : H} {v : D} {n lo hi : Nat} (hm : Mat h v mk n lo hi) :
    ∃ ks, ∀ nx, callI E (.fn 100 []) [.agg [.int .i64 m.ins, .int .i64 m.outs, .frz (m.rows.map rowD) .unk], v, .int .i64 s, .int .i64 t] ⟨nx, h.blk⟩ = some (.int .i64 (if apartN m mk s t m.ins 0 then 1 else 0), ⟨nx, h.blk⟩, { rd := ks }) := by
  obtain ⟨ks, tk, h1, h2⟩ := hm.snap (E.pol.args 100) 6
  have ht0 : tk = .unk := h2 (.inl (by decide))
  subst ht0
  refine ⟨ks, fun nx => ?_⟩
  have := call_cap (g := 100) (args := [encM m, v, .int .i64 s, .int .i64 t]) (cap := []) (h := ⟨nx, h.blk⟩) (xs := [encM m, markD mk, .int .i64 s, .int .i64 t]) (ks := ks) (r := .int .i64 (if apartN m mk s t m.ins 0 then 1 else 0)) (by decide) (by
    simp only [List.append_nil, mapK]
    rw [show snap (E.pol.args 100) h.blk snapDepth (encM m) = some (encM m, []) from snap_encM _ _ 4 m, show snap (E.pol.args 100) h.blk snapDepth v = some (markD mk, ks) from h1]
    simp [snap, snapDepth]) (spec100 hv hk hs ht) (fun _ => rfl)
  rw [show (encM m) = .agg [.int .i64 m.ins, .int .i64 m.outs, .frz (m.rows.map rowD) .unk] from rfl] at this
  rw [this]
  cases ks <;> rfl
theorem mu74a : E.pol.mu 74 123 = true := by decide
theorem mu74b : E.pol.mu 74 127 = true := by decide
theorem push6 {A : Nat → D} {h : H} {n lo : Nat} {mk : List (List Bool)} (h5 : A 5 = .int .i64 n) (hm : Mat h (A 6) mk n lo h.next) (hl : mk.length ≤ 64) (hn : n ≤ 64) (hlo : lo ≤ h.next) :
    ∃ A' h', execR E (callI E) 74 o74_6 [] ⟨A, h⟩ = some ⟨A', h'⟩ ∧ (∀ t, t ≠ 20 → t ≠ 21 → t ≠ 22 → t ≠ 23 → t ≠ 24 → t ≠ 6 → A' t = A t) ∧ h'.next = h.next + 6 ∧ (∀ x, x < lo → h'.blk x = h.blk x) ∧ Mat h' (A' 6) (mk ++ [List.replicate n false]) n lo h'.next ∧ A' 6 = .sl (h.next + 4) 1 0 (mk.length + 1) false := by
  have hmk : (n : Int) ≤ 140737488355328 := by omega
  have hap : (mk.length + 1) * 24 * 2 ≤ 140737488355328 := by omega
  have hm' := hm
  rcases hm with ⟨rfl, hv0⟩ | ⟨b, bs, ex, hv6, g2, g3, g4, g5, g6, g7, g8⟩
  · refine ⟨_, _, by simp [builtinD, lenD, pD, argA, o74_6, hv0, h5, elemsD, appendD, hmk, snapDepth, mapK, mu74a, mu74b, maxAppend]; exact ⟨rfl, rfl⟩, ?_, ?_, ?_, ?_, ?_⟩
    · intro t q1 q2 q3 q4 q5 q6; simp [upd, q1, q2, q3, q4, q5, q6]
    · rfl
    · intro x hx; have e : ∀ j, ¬ x = h.next + j := by omega
      simp [upds, upd, e]
    · rw [hv0] at hm'
      refine (hm'.push (c := h.next + 2) (s := h.next + 4) (r := List.replicate n false) hlo (by omega) (by omega) (by omega) (by simp) ?_ ?_ ?_).wide ?_
      · simp [upds, upd]
      · intro x _ hx _; have e : ∀ j, ¬ x = h.next + j := by omega
        simp [upds, upd, e]
      · simp [upds, upd, rowV]
      · simp <;> omega
    · simp [upd]
  · have hb4 : ¬ b = h.next + 3 := by omega
    have hb5 : ∀ j, ¬ b = h.next + j := by omega
    have htk : List.take mk.length (List.map (rowV n) bs) = List.map (rowV n) bs := List.take_of_length_le (by simp; omega)
    refine ⟨_, _, by simp [builtinD, lenD, pD, argA, o74_6, hv6, h5, g2, g3, elemsD, appendD, hmk, hap, hb4, hb5, htk, snapDepth, mapK, mu74a, mu74b, maxAppend, rowV]; exact ⟨rfl, rfl⟩, ?_, ?_, ?_, ?_, ?_⟩
    · intro t q1 q2 q3 q4 q5 q6; simp [upd, q1, q2, q3, q4, q5, q6]
    · rfl
    · intro x hx; have e : ∀ j, ¬ x = h.next + j := by omega
      have e2 : ¬ x = b := by omega
      simp [upds, upd, e, e2]
    · rw [hv6] at hm'
      refine (hm'.push (c := h.next + 2) (s := h.next + 4) (r := List.replicate n false) hlo (by omega) (by omega) (by omega) (by simp) ?_ ?_ ?_).wide ?_
      · simp [upds, upd]; omega
      · intro x _ hx hne
        have : x ≠ b := fun e => hne (by rw [e])
        have e : ∀ j, ¬ x = h.next + j := by omega
        simp [upds, upd, this, e]
      · simp [upds, upd, g2, htk]; rfl
      · simp <;> omega
    · simp [upd]
theorem push14 {A : Nat → D} {h : H} {n lo : Nat} {mk : List (List Bool)} (h5 : A 5 = .int .i64 n) (hm : Mat h (A 9) mk n lo h.next) (hl : mk.length ≤ 64) (hn : n ≤ 64) (hlo : lo ≤ h.next) :
    ∃ A' h', execR E (callI E) 74 o74_14 [] ⟨A, h⟩ = some ⟨A', h'⟩ ∧ (∀ t, t ≠ 35 → t ≠ 36 → t ≠ 37 → t ≠ 38 → t ≠ 39 → t ≠ 9 → A' t = A t) ∧ h'.next = h.next + 6 ∧ (∀ x, x < lo → h'.blk x = h.blk x) ∧ Mat h' (A' 9) (mk ++ [List.replicate n false]) n lo h'.next ∧ A' 9 = .sl (h.next + 4) 1 0 (mk.length + 1) false := by
  have hmk : (n : Int) ≤ 140737488355328 := by omega
  have hap : (mk.length + 1) * 24 * 2 ≤ 140737488355328 := by omega
  have hm' := hm
  rcases hm with ⟨rfl, hv0⟩ | ⟨b, bs, ex, hv6, g2, g3, g4, g5, g6, g7, g8⟩
  · refine ⟨_, _, by simp [builtinD, lenD, pD, argA, o74_14, hv0, h5, elemsD, appendD, hmk, snapDepth, mapK, mu74a, mu74b, maxAppend]; exact ⟨rfl, rfl⟩, ?_, ?_, ?_, ?_, ?_⟩
    · intro t q1 q2 q3 q4 q5 q6; simp [upd, q1, q2, q3, q4, q5, q6]
    · rfl
    · intro x hx; have e : ∀ j, ¬ x = h.next + j := by omega
      simp [upds, upd, e]
    · rw [hv0] at hm'
      refine (hm'.push (c := h.next + 2) (s := h.next + 4) (r := List.replicate n false) hlo (by omega) (by omega) (by omega) (by simp) ?_ ?_ ?_).wide ?_
      · simp [upds, upd]
      · intro x _ hx _; have e : ∀ j, ¬ x = h.next + j := by omega
        simp [upds, upd, e]
      · simp [upds, upd, rowV]
      · simp <;> omega
    · simp [upd]
  · have hb4 : ¬ b = h.next + 3 := by omega
    have hb5 : ∀ j, ¬ b = h.next + j := by omega
    have htk : List.take mk.length (List.map (rowV n) bs) = List.map (rowV n) bs := List.take_of_length_le (by simp; omega)
    refine ⟨_, _, by simp [builtinD, lenD, pD, argA, o74_14, hv6, h5, g2, g3, elemsD, appendD, hmk, hap, hb4, hb5, htk, snapDepth, mapK, mu74a, mu74b, maxAppend, rowV]; exact ⟨rfl, rfl⟩, ?_, ?_, ?_, ?_, ?_⟩
    · intro t q1 q2 q3 q4 q5 q6; simp [upd, q1, q2, q3, q4, q5, q6]
    · rfl
    · intro x hx; have e : ∀ j, ¬ x = h.next + j := by omega
      have e2 : ¬ x = b := by omega
      simp [upds, upd, e, e2]
    · rw [hv6] at hm'
      refine (hm'.push (c := h.next + 2) (s := h.next + 4) (r := List.replicate n false) hlo (by omega) (by omega) (by omega) (by simp) ?_ ?_ ?_).wide ?_
      · simp [upds, upd]; omega
      · intro x _ hx hne
        have : x ≠ b := fun e => hne (by rw [e])
        have e : ∀ j, ¬ x = h.next + j := by omega
        simp [upds, upd, this, e]
      · simp [upds, upd, g2, htk]; rfl
      · simp <;> omega
    · simp [upd]
end Go.Eng.E3
namespace Go.Eng.E3
open Go Go.Eng Go.Proofs
set_option maxRecDepth 100000
attribute [local simp] execR runOps stepOp wantedD evalOp opd upd St.put Eff.apply upds looseOk FP.free FP.idle apart Eff.fp ofVal loadD storeD partD setPart indexAddrD isShift arith unD callOp mapO D.okc pickD buildable buildD placeD convD
set_option linter.unusedSimpArgs false
set_option maxHeartbeats 2000000
structure IA (m : M) (K : Nat) (k : Nat) (s : St) : Prop where
  le : k ≤ m.rows.length
  h1 : s.A 1 = .int .i64 K
  h2 : s.A 2 = .ptr 0 0 0
  h5 : s.A 5 = .int .i64 m.rows.length
  h7 : s.A 7 = .int .i64 ((m.rows.length - k : Nat) : Int)
  hb : s.h.blk 0 = .live 3 [encM m]
  hn : 1 ≤ s.h.next
  hm : Mat s.h (s.A 6) (List.replicate (m.rows.length - k) (List.replicate m.rows.length false)) m.rows.length 1 s.h.next
theorem loopA {m : M} (hv : Valid m) {K : Nat} {Q : Po} (hQ : ∀ s, IA m K 0 s → Q.x 0 s) (k : Nat) (s : St) (hI : IA m K k s) : V E 74 68 (.loop l74_0) s Q := by
  have r2 := hv.r2
  refine V.count (IA m K) ?_ ?_ k s hI
  · rintro k ⟨A, h⟩ ⟨le, h1, h2, h5, h7, hb, hn, hm⟩
    have hlt : m.rows.length - (k + 1) < m.rows.length := by omega
    generalize hi : m.rows.length - (k + 1) = i at *
    have hk' : m.rows.length - k = i + 1 := by omega
    have hw : IntKind.i64.wrap ((i : Int) + 1) = ((i + 1 : Nat) : Int) := by rw [wrap_id] <;> omega
    simp only at h1 h2 h5 h7 hb hn hm
    rw [cl74_0]
    refine .assoc (.then xr74_4 (by simp [o74_4, builtinD, lenD, pD, argA, h5, h7]; rfl) ?_)
    refine .head (by simp [opd, upd]; rfl) (fun _ => ?_) (fun hf => by simp [hlt] at hf)
    obtain ⟨A', h', e0, e1, e2, e3, e4, _⟩ := push6 (A := upd (upd (upd A 15 (.int .i64 i)) 16 (.int .i64 m.rows.length)) 17 (.bool (decide (i < m.rows.length)))) (h := ⟨h.next + 3, upds h.blk []⟩) (n := m.rows.length) (lo := 1) (mk := List.replicate i (List.replicate m.rows.length false))
      (by simp [upd, h5]) (by simpa [upd, upds] using hm.nx (h.next + 3) (by omega)) (by simp; omega) r2 (by simp)
    have ef : ∀ t, t < 12 → t ≠ 6 → A' t = A t := fun t ht h6 => by rw [e1 t (by omega) (by omega) (by omega) (by omega) (by omega) h6]; simp [upd, show ∀ c, 15 ≤ c → ¬ t = c from fun c h => by omega]
    refine .seq (.block (.reg xr74_6 (by simpa [upds] using e0) ?_))
    refine .reg xr74_5 (by simp [o74_5, builtinD, lenD, pD, argA, ef, h7]; rfl) ⟨by omega, ?_, ?_, ?_, ?_, ?_, ?_, ?_⟩
    · simp [upd, ef, h1]
    · simp [upd, ef, h2]
    · simp [upd, ef, h5]
    · simp [upd, hk', hw]
    · simp [upds, e3 0 (by omega), hb]
    · simp <;> omega
    · simp only [hk']
      rw [List.replicate_succ']
      simpa [upd, upds] using e4.nx (h'.next + 3) (hi' := h'.next + 3) (by omega)
  · rintro ⟨A, h⟩ hI
    have hI' := hI
    obtain ⟨le, h1, h2, h5, h7, hb, hn, hm⟩ := hI
    simp only at h1 h2 h5 h7 hb hn hm
    rw [cl74_0]
    refine .assoc (.then xr74_4 (by simp [o74_4, builtinD, lenD, pD, argA, h5, h7]; rfl) ?_)
    refine .head (by simp [opd, upd]; rfl) (fun hf => by simp at hf) (fun _ => hQ _ ⟨by omega, ?_, ?_, ?_, ?_, ?_, ?_, ?_⟩)
    · simp [upd, h1]
    · simp [upd, h2]
    · simp [upd, h5]
    · simp [upd, h7]
    · simp [upds, hb]
    · simp <;> omega
    · simpa [upd, upds] using hm.nx (h.next + 3) (hi' := h.next + 3) (by omega)
end Go.Eng.E3
namespace Go.Eng.E3
open Go Go.Eng Go.Proofs
set_option maxRecDepth 100000
attribute [local simp] execR runOps stepOp wantedD evalOp opd upd St.put Eff.apply upds looseOk FP.free FP.idle apart Eff.fp ofVal loadD storeD partD setPart indexAddrD isShift arith unD callOp mapO D.okc pickD buildable buildD placeD convD
set_option linter.unusedSimpArgs false
set_option maxHeartbeats 4000000
theorem cell18 {m : M} (hv : Valid m) {mk nk : List (List Bool)} {row : List Bool} {A : Nat → D} {h : H} {S T N0 : Nat} (hsq : Sq m.rows.length mk) (hS : S < m.rows.length) (hT : T < m.rows.length)
    (h2 : A 2 = .ptr 0 0 0) (h10 : A 10 = .int .i64 S) (h11 : A 11 = .int .i64 T) (hb : h.blk 0 = .live 3 [encM m]) (_hN : N0 ≤ h.next) (_hN1 : 1 ≤ N0)
    (hm : Mat h (A 6) mk m.rows.length 1 N0) (hn : Mat h (A 9) nk m.rows.length N0 h.next) (hrow : nk[S]? = some row) :
    ∃ A' h', execR E (callI E) 74 o74_18 [(3, 8), (3, 11), (3, 13), (3, 17)] ⟨A, h⟩ = some ⟨A', h'⟩ ∧ (∀ t, t < 45 → A' t = A t) ∧ h'.next = h.next + 22 ∧ (∀ x, x < N0 → h'.blk x = h.blk x) ∧ Mat h' (A 9) (nk.set S (row.set T (cellM m mk S T))) m.rows.length N0 h'.next := by
  have hm0 := hm
  have hn0 := hn
  obtain ⟨ks, hcall⟩ := call100 hv hsq hS hT hm0
  rcases hm with ⟨rfl, _⟩ | ⟨b, bs, ex, v6, g2, g3, g4, g5, g6, g7, g8⟩
  · have := hsq.l; have := hv.r1; simp at *; omega
  rcases hn with ⟨rfl, _⟩ | ⟨b', bs', ex', v9, k2, k3, k4, k5, k6, k7, k8⟩
  · simp at hrow
  have hSm : S < mk.length := by rw [hsq.l]; exact hS
  have hSb : S < bs.length := by omega
  have hSn : S < nk.length := (List.getElem?_eq_some_iff.1 hrow).1
  have hSb' : S < bs'.length := by omega
  have q1 := g8 S bs[S] mk[S] (List.getElem?_eq_getElem hSb) (List.getElem?_eq_getElem hSm)
  have q2 := k8 S bs'[S] row (List.getElem?_eq_getElem hSb') hrow
  have hTm : T < mk[S].length := by rw [q1.2]; exact hT
  have hTr : T < row.length := by rw [q2.2]; exact hT
  have hmg : mget mk S T = mk[S][T] := by simp [mget, hSm, hTm]
  have w1 := g6 bs[S] (List.getElem_mem hSb)
  have w2 := k6 bs'[S] (List.getElem_mem hSb')
  have hcb : ∀ x, x < N0 → ¬ x = bs'[S] := fun x hx => by omega
  rw [v6] at hcall
  cases hv0 : mk[S][T] with
  | true =>
    have hcell : cellM m mk S T = true := by simp [cellM, hmg, hv0]
    refine ⟨_, _, by simp [builtinD, lenD, pD, argA, o74_18, v6, v9, h2, h10, h11, g2, k2, g3, k3, hSm, hSn, hSb, hSb', hT, hTm, hTr, hS, q1.1, q2.1, hv0, rowV, hb, encM]; exact ⟨rfl, rfl⟩, ?_, ?_, ?_, ?_⟩
    · intro t ht
      simp [upd, show ∀ c, 45 ≤ c → ¬ t = c from fun c h => by omega]
    · rfl
    · intro x hx; simp [upd, upds, hcb x hx]
    · rw [v9] at hn0 ⊢
      refine (hn0.put (c := bs'[S]) (h' := ⟨h.next + 22, _⟩) k2 (List.getElem?_eq_getElem hSb') hSn (by simp [q2.2]) ?_ ?_).wide (by simp)
      · simp [upd, upds, hcell, List.map_set]
      · intro x hx; simp [upd, upds, hx]
  | false =>
    have hcell : cellM m mk S T = apartN m mk S T m.ins 0 := by simp [cellM, hmg, hv0]
    have hab : ∀ c : Bool, (((if c = true then 1 else 0 : Int) == 1) : Bool) = c := fun c => by cases c <;> rfl
    have hab2 : ∀ c : Bool, decide ((if c = true then 1 else 0 : Int) = 1) = c := fun c => by cases c <;> rfl
    refine ⟨_, _, by simp [builtinD, lenD, pD, argA, o74_18, v6, v9, h2, h10, h11, g2, k2, g3, k3, hSm, hSn, hSb, hSb', hT, hTm, hTr, hS, q1.1, q2.1, hv0, rowV, hb, encM, hcall, hab, hab2]; exact ⟨rfl, rfl⟩, ?_, ?_, ?_, ?_⟩
    · intro t ht
      simp [upd, show ∀ c, 45 ≤ c → ¬ t = c from fun c h => by omega]
    · rfl
    · intro x hx; simp [upd, upds, hcb x hx]
    · rw [v9] at hn0 ⊢
      refine (hn0.put (c := bs'[S]) (h' := ⟨h.next + 22, _⟩) k2 (List.getElem?_eq_getElem hSb') hSn (by simp [q2.2]) ?_ ?_).wide (by simp)
      · simp [upd, upds, hcell, List.map_set]
      · intro x hx; simp [upd, upds, hx]
end Go.Eng.E3
namespace Go.Eng.E3
open Go Go.Eng Go.Proofs
set_option maxRecDepth 100000
attribute [local simp] execR runOps stepOp wantedD evalOp opd upd St.put Eff.apply upds looseOk FP.free FP.idle apart Eff.fp ofVal loadD storeD partD setPart indexAddrD isShift arith unD callOp mapO D.okc pickD buildable buildD placeD convD
set_option linter.unusedSimpArgs false
set_option maxHeartbeats 2000000
def rowM (m : M) (mk : List (List Bool)) (s : Nat) : List Bool := (List.range m.rows.length).map fun t => cellM m mk s t
def partM (m : M) (mk : List (List Bool)) (s t : Nat) : List Bool := (List.range t).map (fun t => cellM m mk s t) ++ List.replicate (m.rows.length - t) false
theorem partM_set {m : M} {mk : List (List Bool)} {s t : Nat} (ht : t < m.rows.length) : (partM m mk s t).set t (cellM m mk s t) = partM m mk s (t + 1) := by
  unfold partM
  rw [List.set_append_right _ _ (by simp), List.range_succ, List.map_append]
  simp only [List.length_map, List.length_range, Nat.sub_self]
  obtain ⟨q, hq⟩ : ∃ q, m.rows.length - t = q + 1 := ⟨m.rows.length - t - 1, by omega⟩
  rw [hq, List.replicate_succ, List.set_cons_zero, show m.rows.length - (t + 1) = q by omega]
  simp
theorem partM_all {m : M} {mk : List (List Bool)} {s : Nat} : partM m mk s m.rows.length = rowM m mk s := by simp [partM, rowM]
theorem partM_zero {m : M} {mk : List (List Bool)} {s : Nat} : partM m mk s 0 = List.replicate m.rows.length false := by simp [partM]
def rowsM (m : M) (mk : List (List Bool)) (s : Nat) : List (List Bool) := (List.range s).map fun s => rowM m mk s
theorem rowsM_len {m : M} {mk : List (List Bool)} {s : Nat} : (rowsM m mk s).length = s := by simp [rowsM]
theorem rowsM_succ {m : M} {mk : List (List Bool)} {s : Nat} : rowsM m mk (s + 1) = rowsM m mk s ++ [rowM m mk s] := by simp [rowsM, List.range_succ]
theorem rowsM_all {m : M} {mk : List (List Bool)} : rowsM m mk m.rows.length = stepM m mk := rfl
structure Fix (m : M) (K R : Nat) (mk : List (List Bool)) (N0 : Nat) (s : St) : Prop where
  h1 : s.A 1 = .int .i64 K
  h2 : s.A 2 = .ptr 0 0 0
  h5 : s.A 5 = .int .i64 m.rows.length
  h8 : s.A 8 = .int .i64 R
  hb : s.h.blk 0 = .live 3 [encM m]
  hN : N0 ≤ s.h.next
  hm : Mat s.h (s.A 6) mk m.rows.length 1 N0
theorem Fix.step {m : M} {K R N0 : Nat} {mk : List (List Bool)} {s s' : St} (f : Fix m K R mk N0 s) (h1 : 1 ≤ N0) (e : ∀ t, t < 9 → s'.A t = s.A t) (en : s.h.next ≤ s'.h.next) (eb : ∀ x, x < N0 → s'.h.blk x = s.h.blk x) : Fix m K R mk N0 s' := by
  obtain ⟨q1, q2, q3, q4, q5, q6, q7⟩ := f
  exact ⟨by rw [e 1 (by omega)]; exact q1, by rw [e 2 (by omega)]; exact q2, by rw [e 5 (by omega)]; exact q3, by rw [e 8 (by omega)]; exact q4, by rw [eb 0 (by omega)]; exact q5, by omega,
    by rw [e 6 (by omega)]; exact q7.frame fun b _ hb => eb b hb⟩
structure IC (m : M) (K R : Nat) (mk : List (List Bool)) (N0 S : Nat) (k : Nat) (s : St) : Prop where
  le : k ≤ m.rows.length
  fx : Fix m K R mk N0 s
  h10 : s.A 10 = .int .i64 S
  h11 : s.A 11 = .int .i64 ((m.rows.length - k : Nat) : Int)
  hn : Mat s.h (s.A 9) (rowsM m mk S ++ [partM m mk S (m.rows.length - k)]) m.rows.length N0 s.h.next
theorem loopC {m : M} (hv : Valid m) {K R N0 S : Nat} {mk : List (List Bool)} (hsq : Sq m.rows.length mk) (hN : 1 ≤ N0) (hS : S < m.rows.length) {Q : Po} (hQ : ∀ s, IC m K R mk N0 S 0 s → Q.x 6 s) (k : Nat) (s : St) (hI : IC m K R mk N0 S k s) : V E 74 68 (.loop l74_3) s Q := by
  have r2 := hv.r2
  refine V.count (IC m K R mk N0 S) ?_ ?_ k s hI
  · rintro k ⟨A, h⟩ ⟨le, fx, h10, h11, hn⟩
    have hlt : m.rows.length - (k + 1) < m.rows.length := by omega
    generalize hi : m.rows.length - (k + 1) = i at *
    have hk' : m.rows.length - k = i + 1 := by omega
    have hw : IntKind.i64.wrap ((i : Int) + 1) = ((i + 1 : Nat) : Int) := by rw [wrap_id] <;> omega
    have h5 := fx.h5
    simp only at h5 h10 h11 hn
    rw [cl74_3]
    refine .assoc (.then xr74_16 (by simp [o74_16, builtinD, lenD, pD, argA, h5, h11]; rfl) ?_)
    refine .head (by simp [opd, upd]; rfl) (fun _ => ?_) (fun hf => by simp [hlt] at hf)
    have hf3 : ∀ A1 : Nat → D, A1 = upd (upd (upd A 40 (.int .i64 i)) 41 (.int .i64 m.rows.length)) 42 (.bool (decide (i < m.rows.length))) → ∀ t, t < 40 → A1 t = A t := fun A1 e t ht => by
      rw [e]; simp [upd, show ∀ c, 40 ≤ c → ¬ t = c from fun c h => by omega]
    generalize hA1 : upd (upd (upd A 40 (.int .i64 i)) 41 (.int .i64 m.rows.length)) 42 (.bool (decide (i < m.rows.length))) = A1
    have ef := hf3 A1 hA1.symm
    have fx1 : Fix m K R mk N0 ⟨A1, ⟨h.next + 3, h.blk⟩⟩ := fx.step hN (fun t ht => ef t (by omega)) (by simp) (fun _ _ => rfl)
    obtain ⟨A', h', e0, e1, e2, e3, e4⟩ := cell18 hv (A := A1) (h := ⟨h.next + 3, h.blk⟩) (nk := rowsM m mk S ++ [partM m mk S i]) (row := partM m mk S i) hsq hS hlt (by exact fx1.h2) (by rw [ef 10 (by omega)]; exact h10) (by rw [ef 11 (by omega)]; exact h11) (by exact fx1.hb) (by exact fx1.hN) hN (by exact fx1.hm)
      (by rw [ef 9 (by omega)]; exact hn.nx (h.next + 3) (by simp)) (by rw [List.getElem?_append_right (by rw [rowsM_len]; exact Nat.le_refl _), rowsM_len]; simp)
    refine .seq (.block (.reg xr74_18 (by simpa [upds] using e0) ?_))
    have fx2 : Fix m K R mk N0 ⟨A', h'⟩ := fx1.step hN (fun t ht => e1 t (by omega)) (by simp only [e2]; omega) e3
    have h11' : A' 11 = .int .i64 i := by rw [e1 11 (by omega), ef 11 (by omega)]; exact h11
    refine .reg xr74_17 (by simp [o74_17, builtinD, lenD, pD, argA, h11']; rfl) ⟨by omega, ?_, ?_, ?_, ?_⟩
    · exact fx2.step hN (fun t ht => by simp [upd, show t ≠ 43 by omega, show t ≠ 44 by omega, show t ≠ 11 by omega]) (by simp) (fun _ _ => rfl)
    · simp [upd, e1, ef, h10]
    · simp [upd, hk', hw]
    · rw [hk', ← partM_set hlt]
      have : (rowsM m mk S ++ [partM m mk S i]).set S ((partM m mk S i).set i (cellM m mk S i)) = rowsM m mk S ++ [(partM m mk S i).set i (cellM m mk S i)] := by
        rw [List.set_append_right _ _ (by rw [rowsM_len]; exact Nat.le_refl _), rowsM_len]; simp
      rw [this] at e4
      have e9 : A' 9 = A1 9 := e1 9 (by omega)
      rw [← e9] at e4
      simpa [upd, upds] using e4.nx (h'.next + 3) (hi' := h'.next + 3) (by omega)
  · rintro ⟨A, h⟩ hI
    obtain ⟨le, fx, h10, h11, hn⟩ := hI
    have h5 := fx.h5
    simp only at h5 h10 h11 hn
    rw [cl74_3]
    refine .assoc (.then xr74_16 (by simp [o74_16, builtinD, lenD, pD, argA, h5, h11]; rfl) ?_)
    refine .head (by simp [opd, upd]; rfl) (fun hf => by simp at hf) (fun _ => hQ _ ⟨by omega, ?_, ?_, ?_, ?_⟩)
    · exact fx.step hN (fun t ht => by simp [upd, show ∀ c, 40 ≤ c → ¬ t = c from fun c h => by omega]) (by simp) (fun _ _ => rfl)
    · simp [upd, h10]
    · simp [upd, h11]
    · simpa [upd, upds] using hn.nx (h.next + 3) (hi' := h.next + 3) (by omega)
structure ID (m : M) (K R : Nat) (mk : List (List Bool)) (N0 : Nat) (k : Nat) (s : St) : Prop where
  le : k ≤ m.rows.length
  fx : Fix m K R mk N0 s
  h10 : s.A 10 = .int .i64 ((m.rows.length - k : Nat) : Int)
  hn : Mat s.h (s.A 9) (rowsM m mk (m.rows.length - k)) m.rows.length N0 s.h.next
theorem loopD {m : M} (hv : Valid m) {K R N0 : Nat} {mk : List (List Bool)} (hsq : Sq m.rows.length mk) (hN : 1 ≤ N0) {Q : Po} (hQ : ∀ s, ID m K R mk N0 0 s → Q.x 4 s) (k : Nat) (s : St) (hI : ID m K R mk N0 k s) : V E 74 68 (.loop l74_2) s Q := by
  have r2 := hv.r2
  refine V.count (ID m K R mk N0) ?_ ?_ k s hI
  · rintro k ⟨A, h⟩ ⟨le, fx, h10, hn⟩
    have hlt : m.rows.length - (k + 1) < m.rows.length := by omega
    generalize hi : m.rows.length - (k + 1) = i at *
    have hk' : m.rows.length - k = i + 1 := by omega
    have hw : IntKind.i64.wrap ((i : Int) + 1) = ((i + 1 : Nat) : Int) := by rw [wrap_id] <;> omega
    have h5 := fx.h5
    simp only at h5 h10 hn
    rw [cl74_2]
    refine .assoc (.then xr74_12 (by simp [o74_12, builtinD, lenD, pD, argA, h5, h10]; rfl) ?_)
    refine .head (by simp [opd, upd]; rfl) (fun _ => ?_) (fun hf => by simp [hlt] at hf)
    have hf3 : ∀ A1 : Nat → D, A1 = upd (upd (upd A 30 (.int .i64 i)) 31 (.int .i64 m.rows.length)) 32 (.bool (decide (i < m.rows.length))) → ∀ t, t < 30 → A1 t = A t := fun A1 e t ht => by
      rw [e]; simp [upd, show ∀ c, 30 ≤ c → ¬ t = c from fun c h => by omega]
    generalize hA1 : upd (upd (upd A 30 (.int .i64 i)) 31 (.int .i64 m.rows.length)) 32 (.bool (decide (i < m.rows.length))) = A1
    have ef := hf3 A1 hA1.symm
    have fx1 : Fix m K R mk N0 ⟨A1, ⟨h.next + 3, h.blk⟩⟩ := fx.step hN (fun t ht => ef t (by omega)) (by simp) (fun _ _ => rfl)
    obtain ⟨A', h', e0, e1, e2, e3, e4, _⟩ := push14 (A := A1) (h := ⟨h.next + 3, h.blk⟩) (n := m.rows.length) (lo := N0) (mk := rowsM m mk i) (by exact fx1.h5) (by rw [ef 9 (by omega)]; exact hn.nx (h.next + 3) (by simp)) (by rw [rowsM_len]; omega) r2 (by exact fx1.hN)
    have ef' : ∀ t, t < 30 → t ≠ 9 → A' t = A t := fun t ht h9 => by rw [e1 t (by omega) (by omega) (by omega) (by omega) (by omega) h9, ef t ht]
    have fx2 : Fix m K R mk N0 ⟨A', h'⟩ := fx.step hN (fun t ht => ef' t (by omega) (by omega)) (by simp only [e2]; omega) e3
    refine .seq (.block (.then xr74_14 (by simpa [upds] using e0) ?_))
    refine .then xr74_15 (by simp [o74_15, builtinD, lenD, pD, argA]; rfl) ?_
    refine .block (loopC (K := K) (R := R) (N0 := N0) hv hsq hN hlt ?_ m.rows.length _ ⟨Nat.le_refl _, ?_, ?_, ?_, ?_⟩)
    · rintro ⟨A2, h2⟩ ⟨_, fx3, g10, g11, gn⟩
      simp only at g10 g11 gn
      show V E 74 68 r74_13 _ _
      refine .reg xr74_13 (by simp [o74_13, builtinD, lenD, pD, argA, g10]; rfl) ⟨by omega, ?_, ?_, ?_⟩
      · exact fx3.step hN (fun t ht => by simp [upd, show t ≠ 33 by omega, show t ≠ 34 by omega, show t ≠ 10 by omega]) (by simp) (fun _ _ => rfl)
      · simp [upd, hk', hw]
      · rw [hk', rowsM_succ, ← partM_all]
        simpa [upd, upds] using gn.nx (h2.next + 3) (hi' := h2.next + 3) (by omega)
    · exact fx2.step hN (fun t ht => by simp [upd, show t ≠ 11 by omega]) (by simp) (fun _ _ => rfl)
    · simp [upd, ef', h10]
    · simp [upd]
    · simp only [Nat.sub_self, partM_zero]
      simpa [upd, upds] using e4.nx (h'.next + 1) (hi' := h'.next + 1) (by omega)
  · rintro ⟨A, h⟩ hI
    obtain ⟨le, fx, h10, hn⟩ := hI
    have h5 := fx.h5
    simp only at h5 h10 hn
    rw [cl74_2]
    refine .assoc (.then xr74_12 (by simp [o74_12, builtinD, lenD, pD, argA, h5, h10]; rfl) ?_)
    refine .head (by simp [opd, upd]; rfl) (fun hf => by simp at hf) (fun _ => hQ _ ⟨by omega, ?_, ?_, ?_⟩)
    · exact fx.step hN (fun t ht => by simp [upd, show ∀ c, 30 ≤ c → ¬ t = c from fun c h => by omega]) (by simp) (fun _ _ => rfl)
    · simp [upd, h10]
    · simpa [upd, upds] using hn.nx (h.next + 3) (hi' := h.next + 3) (by omega)
structure IB (m : M) (K : Nat) (k : Nat) (s : St) : Prop where
  le : k ≤ K
  h1 : s.A 1 = .int .i64 K
  h2 : s.A 2 = .ptr 0 0 0
  h5 : s.A 5 = .int .i64 m.rows.length
  h8 : s.A 8 = .int .i64 ((K - k : Nat) : Int)
  hb : s.h.blk 0 = .live 3 [encM m]
  hn : 1 ≤ s.h.next
  hm : Mat s.h (s.A 6) (markN m (K - k)) m.rows.length 1 s.h.next
theorem loopB {m : M} (hv : Valid m) {K : Nat} (hK : K < 2 ^ 62) {Q : Po} (hQ : ∀ s, IB m K 0 s → Q.x 2 s) (k : Nat) (s : St) (hI : IB m K k s) : V E 74 68 (.loop l74_1) s Q := by
  refine V.count (IB m K) ?_ ?_ k s hI
  · rintro k ⟨A, h⟩ ⟨le, h1, h2, h5, h8, hb, hn, hm⟩
    have hlt : K - (k + 1) < K := by omega
    generalize hi : K - (k + 1) = i at *
    have hk' : K - k = i + 1 := by omega
    have hw : IntKind.i64.wrap ((i : Int) + 1) = ((i + 1 : Nat) : Int) := by rw [wrap_id] <;> omega
    simp only at h1 h2 h5 h8 hb hn hm
    rw [cl74_1]
    refine .assoc (.then xr74_8 (by simp [o74_8, builtinD, lenD, pD, argA, h1, h8]; rfl) ?_)
    refine .head (by simp [opd, upd]; rfl) (fun _ => ?_) (fun hf => by simp [hlt] at hf)
    refine .seq (.block (.then xr74_10 (by simp [o74_10, builtinD, lenD, pD, argA]; rfl) ?_))
    refine .assoc (.then xr74_11 (by simp [o74_11, builtinD, lenD, pD, argA]; rfl) ?_)
    have hN0 : 1 ≤ h.next + 3 + 1 + 1 := by omega
    refine .seq (.block (loopD (K := K) (R := i) (N0 := h.next + 3 + 1 + 1) hv (sq_mark m i) hN0 ?_ m.rows.length _ ⟨Nat.le_refl _, ⟨?_, ?_, ?_, ?_, ?_, ?_, ?_⟩, ?_, ?_⟩))
    · rintro ⟨A2, h2'⟩ ⟨_, fx3, g10, gn⟩
      simp only at g10 gn
      have f1 := fx3.h1
      have f2 := fx3.h2
      have f5 := fx3.h5
      have f8 := fx3.h8
      have fb := fx3.hb
      have fN := fx3.hN
      simp only at f1 f2 f5 f8 fb fN
      show V E 74 68 r74_19 _ _
      refine .reg xr74_19 (by simp [o74_19, builtinD, lenD, pD, argA]; rfl) ?_
      show V E 74 68 r74_9 _ _
      refine .reg xr74_9 (by simp [o74_9, builtinD, lenD, pD, argA, f8]; rfl) ⟨by omega, ?_, ?_, ?_, ?_, ?_, ?_, ?_⟩
      · simp [upd, f1]
      · simp [upd, f2]
      · simp [upd, f5]
      · simp [upd, hk', hw]
      · simp [upds, fb]
      · simp <;> omega
      · rw [hk', markN, ← rowsM_all]
        have gn' := gn
        rw [Nat.sub_zero] at gn'
        have hw1 : Mat h2' (A2 9) (rowsM m (markN m i) m.rows.length) m.rows.length 1 h2'.next := by
          rcases gn' with q | ⟨b, bs, ex, q1, q2, q3, q4, q5, q6, q7, q8⟩
          · exact .inl q
          · exact .inr ⟨b, bs, ex, q1, q2, q3, by omega, q5, fun c hc => ⟨by have := (q6 c hc).1; omega, (q6 c hc).2⟩, q7, q8⟩
        simpa [upd, upds] using hw1.nx (h2'.next + 2 + 3) (hi' := h2'.next + 2 + 3) (by omega)
    · simp [upd, h1]
    · simp [upd, h2]
    · simp [upd, h5]
    · simp [upd, h8]
    · simp [upds, hb]
    · simp
    · simpa [upd, upds] using hm.nx (h.next + 3 + 1 + 1) (hi' := h.next + 3 + 1 + 1) (by omega)
    · simp [upd]
    · simp only [Nat.sub_self]
      exact .inl ⟨rfl, by simp [upd]⟩
  · rintro ⟨A, h⟩ hI
    obtain ⟨le, h1, h2, h5, h8, hb, hn, hm⟩ := hI
    simp only at h1 h2 h5 h8 hb hn hm
    rw [cl74_1]
    refine .assoc (.then xr74_8 (by simp [o74_8, builtinD, lenD, pD, argA, h1, h8]; rfl) ?_)
    refine .head (by simp [opd, upd]; rfl) (fun hf => by simp at hf) (fun _ => hQ _ ⟨by omega, ?_, ?_, ?_, ?_, ?_, ?_, ?_⟩)
    · simp [upd, h1]
    · simp [upd, h2]
    · simp [upd, h5]
    · simp [upd, h8]
    · simp [upds, hb]
    · simp <;> omega
    · simpa [upd, upds] using hm.nx (h.next + 3) (hi' := h.next + 3) (by omega)
theorem spec74 {m : M} (hv : Valid m) {K : Nat} (hK : K < 2 ^ 62) : bodyR 74 [encM m, .int .i64 K] = some (markD (markN m K)) := by
  have r1 := hv.r1
  refine bodyR_V (run74 _ _ (by simp)) ?_
  unfold b74
  refine .then xr74_0 (by simp [o74_0, builtinD, lenD, pD, argA, encM]; rfl) ?_
  refine .then xr74_1 (by simp [o74_1, builtinD, lenD, pD, argA]; rfl) ?_
  refine .then xr74_2 (by simp [o74_2, builtinD, lenD, pD, argA]; rfl) ?_
  refine .assoc (.then xr74_3 (by simp [o74_3, builtinD, lenD, pD, argA]; rfl) ?_)
  refine .seq (.block (loopA (K := K) hv ?_ m.rows.length _ ⟨Nat.le_refl _, ?_, ?_, ?_, ?_, ?_, ?_, ?_⟩))
  · rintro ⟨A, h⟩ ⟨le, h1, h2, h5, h7, hb, hn, hm⟩
    simp only at h1 h2 h5 h7 hb hn hm
    refine .assoc (.then xr74_7 (by simp [o74_7, builtinD, lenD, pD, argA]; rfl) ?_)
    refine .seq (.block (loopB hv hK ?_ K _ ⟨Nat.le_refl _, ?_, ?_, ?_, ?_, ?_, ?_, ?_⟩))
    · rintro ⟨A, h⟩ ⟨le, h1, h2, h5, h8, hb, hn, hm⟩
      simp only at h1 h2 h5 h8 hb hn hm
      refine .then xr74_20 (by simp [o74_20, builtinD, lenD, pD, argA]; rfl) (.ret ⟨_, by simp [resultsD, mapO, resultD, upd]; rfl, ?_⟩)
      rw [Nat.sub_zero] at hm
      have hne : markN m K ≠ [] := fun e => by have := (sq_mark m K).l; rw [e] at this; simp at this; omega
      obtain ⟨ks, tk, e1, e2⟩ := hm.snap true 6
      have etk : tk = .unk := e2 (.inr hne)
      subst etk
      simp [upd, upds]
      exact ⟨ks, e1⟩
    · simp [upd, h1]
    · simp [upd, h2]
    · simp [upd, h5]
    · simp [upd]
    · simp [upds, hb]
    · simp <;> omega
    · rw [Nat.sub_self, markN]
      rw [Nat.sub_zero] at hm
      simpa [upd, upds, zeroM] using hm.nx (h.next + 1) (hi' := h.next + 1) (by omega)
  · simp [upd, argA]
  · simp [upd]
  · simp [upd]
  · simp [upd]
  · simp [upd, encM]
  · simp
  · rw [Nat.sub_self]; exact .inl ⟨rfl, by simp [upd]⟩
end Go.Eng.E3
namespace Go.Eng.E3
open Go Go.Eng Go.Proofs
set_option maxRecDepth 100000
attribute [local simp] execR runOps stepOp wantedD evalOp opd upd St.put Eff.apply upds looseOk FP.free FP.idle apart Eff.fp ofVal loadD storeD partD setPart indexAddrD isShift arith unD callOp mapO D.okc pickD buildable buildD placeD convD
set_option linter.unusedSimpArgs false
def tkA' {α : Type} (l : List α) : Tok := if l.isEmpty then .nil else .unk
def natD (i : Nat) : D := .int .i64 i
def TokB (blk : Nat → Blk) (tk : Tok) (e nx : Nat) : Prop := tk = .nil ∨ ∃ o, tk = .own o e ∧ blk o = .tok ∧ o < nx
def tokWr (tk : Tok) (s : Nat) : List (Nat × Blk) := match tk with
  | .own o _ => [(o, .dead), (s, .tok)]
  | _ => [(s, .tok)]
def tokRd (tk : Tok) : List Nat := match tk with
  | .own o _ => [o]
  | _ => []
theorem TokB.mono {blk blk' : Nat → Blk} {tk : Tok} {e nx nx' : Nat} (h : TokB blk tk e nx) (hn : nx ≤ nx') (hb : ∀ b, b < nx → blk b = .tok → blk' b = .tok) : TokB blk' tk e nx' := by
  rcases h with h | ⟨o, h1, h2, h3⟩
  · exact .inl h
  · exact .inr ⟨o, h1, hb o h3 h2, by omega⟩
theorem TokB.grow {blk : Nat → Blk} {tk : Tok} {e s nx : Nat} (hs : s < nx) : TokB (upds blk (tokWr tk s)) (.own s e) e nx := by
  refine .inr ⟨s, rfl, ?_, hs⟩
  cases tk <;> simp [tokWr, upds, upd]
theorem tokWr_keep {blk : Nat → Blk} {tk : Tok} {e s nx b : Nat} (h : TokB blk tk e nx) (hb : blk b ≠ .tok) (hs : b ≠ s) : upds blk (tokWr tk s) b = blk b := by
  rcases h with rfl | ⟨o, rfl, h2, h3⟩
  · simp [tokWr, upds, upd, hs]
  · have : b ≠ o := fun e => hb (by rw [e]; exact h2)
    simp [tokWr, upds, upd, hs, this]
theorem app62 {mu : TypeId → Bool} {s : Nat} {blk : Nat → Blk} {xs : List Int} {tk tk' : Tok} {x : Int} {nx : Nat} (hmu : mu 62 = false) (ht : TokB blk tk 1 nx) (hl : xs.length < 2 ^ 40) :
    builtinD E.T mu s blk .append [62, 62] [.frz (xs.map (D.int .i64)) tk, .frz [.int .i64 x] tk'] = some { v := .frz ((xs ++ [x]).map (D.int .i64)) (.own s 1), wr := tokWr tk s, rd := tokRd tk } := by
  have hall : ∀ z ∈ xs.map (D.int .i64) ++ [.int .i64 x], z.cells.length = 1 := fun z hz => by
    rcases List.mem_append.1 hz with hz | hz
    · obtain ⟨y, _, rfl⟩ := List.mem_map.1 hz; rfl
    · simp at hz; subst hz; rfl
  have hle : ((xs.map (D.int .i64)).length + [D.int .i64 x].length) * 8 * 2 ≤ maxAppend := by
    simp only [List.length_map, List.length_singleton, maxAppend]; omega
  rcases ht with rfl | ⟨o, rfl, h2, h3⟩
  · simp only [builtinD, ok_62, desc_62, if_true, appendD, elem_62, elemsD, hmu, Bool.false_eq_true, if_false, mapK, snapDepth, snap_int, size_3, bytes_3, kills, List.map_nil, List.append_nil, List.nil_append]
    rw [if_pos ⟨hall, hle, by decide, by decide⟩]
    simp [tokWr, tokRd]
  · simp only [builtinD, ok_62, desc_62, if_true, appendD, elem_62, elemsD, hmu, Bool.false_eq_true, if_false, mapK, snapDepth, snap_int, size_3, bytes_3, kills, List.map_nil, List.append_nil, List.nil_append]
    rw [if_pos ⟨hall, hle, by decide, by decide⟩]
    simp only [if_true, h2]
    simp [tokWr, tokRd]
end Go.Eng.E3
namespace Go.Eng.E3
open Go Go.Eng Go.Proofs
set_option maxRecDepth 100000
attribute [local simp] execR runOps stepOp wantedD evalOp opd upd St.put Eff.apply upds looseOk FP.free FP.idle apart Eff.fp ofVal loadD storeD partD setPart indexAddrD isShift arith unD callOp mapO D.okc pickD buildable buildD placeD convD
set_option linter.unusedSimpArgs false
set_option maxHeartbeats 2000000
def lastB (mk : List (List Bool)) (s : Nat) (out : List Int) : Nat → Int
  | 0 => -1
  | t + 1 => if mget mk s t then lastB mk s out t else out.getD t 0
def partStep (mk : List (List Bool)) (p : List Int × Nat) (s : Nat) : List Int × Nat :=
  if lastB mk s p.1 s < 0 then (p.1 ++ [(p.2 : Int)], p.2 + 1) else (p.1 ++ [lastB mk s p.1 s], p.2)
def partN (mk : List (List Bool)) : Nat → List Int × Nat
  | 0 => ([], 0)
  | s + 1 => partStep mk (partN mk s) s
theorem partN_len (mk : List (List Bool)) : ∀ s, (partN mk s).1.length = s ∧ (partN mk s).2 ≤ s
  | 0 => ⟨rfl, Nat.le_refl _⟩
  | s + 1 => by
    have ih := partN_len mk s
    rw [partN, partStep]
    split
    · exact ⟨by simp [ih.1], by have := ih.2; simp; omega⟩
    · exact ⟨by simp [ih.1], by have := ih.2; simp; omega⟩
theorem mu122 : E.pol.mu 122 62 = false := by decide
structure J122 (mk : List (List Bool)) (s : Nat) (out : List Int) (n : Nat) (tk : Tok) (blk : Nat → Blk) (nx : Nat) (k : Nat) (st : St) : Prop where
  le : k ≤ s
  h0 : st.A 0 = .frz (mk.map boolRow) .unk
  h3 : st.A 3 = .frz (out.map (D.int .i64)) tk
  h4 : st.A 4 = .int .i64 n
  h5 : st.A 5 = .int .i64 s
  h6 : st.A 6 = .int .i64 (lastB mk s out (s - k))
  h7 : st.A 7 = .int .i64 ((s - k : Nat) : Int)
  hb : st.h.blk = blk
  hn : nx ≤ st.h.next
theorem inner122 {mk : List (List Bool)} {s n : Nat} {out : List Int} {tk : Tok} {blk : Nat → Blk} {nx : Nat} (hsq : Sq mk.length mk) (hs : s < mk.length) (hl : mk.length ≤ 64) (ho : out.length = s) {Q : Po} (hQ : ∀ st, J122 mk s out n tk blk nx 0 st → Q.x 2 st) (k : Nat) (st : St) (hI : J122 mk s out n tk blk nx k st) :
    V E 122 41 (.loop l122_1) st Q := by
  refine V.count (J122 mk s out n tk blk nx) ?_ ?_ k st hI
  · rintro k ⟨A, h⟩ ⟨le, h0, h3, h4, h5, h6, h7, hb, hn⟩
    have hlt : s - (k + 1) < s := by omega
    generalize hi : s - (k + 1) = i at *
    have hk' : s - k = i + 1 := by omega
    have hw : IntKind.i64.wrap ((i : Int) + 1) = ((i + 1 : Nat) : Int) := by rw [wrap_id] <;> omega
    have hrl : i < mk[s].length := by rw [hsq.r _ (List.getElem_mem hs)]; omega
    have hmg : mget mk s i = mk[s][i] := by simp [mget, hs, hrl]
    have hio : i < out.length := by omega
    simp only at h0 h3 h4 h5 h6 h7 hb hn
    rw [cl122_1]
    refine .assoc (.then xr122_8 (by simp [o122_8, builtinD, lenD, pD, argA, h5, h7]; rfl) ?_)
    refine .head (by simp [opd, upd]; rfl) (fun _ => ?_) (fun hf => by simp [hlt] at hf)
    refine .seq (.block (.then xr122_10 (by simp [o122_10, builtinD, lenD, pD, argA, h0, h5, h7, hs, hrl, boolRow]; rfl) ?_))
    refine .cond (v := !mk[s][i]) (by simp [opd, upd]) (fun q => ?_) (fun q => .skip ?_)
    · have hv0 : mk[s][i] = false := by simpa using q
      refine .reg xr122_11 (by simp [o122_11, builtinD, lenD, pD, argA, h3, h7, hio]; rfl) ?_
      show V E 122 41 r122_9 _ _
      refine .reg xr122_9 (by simp [o122_9, builtinD, lenD, pD, argA, h7]; rfl) ⟨by omega, ?_, ?_, ?_, ?_, ?_, ?_, ?_, ?_⟩
      · simp [upd, h0]
      · simp [upd, h3]
      · simp [upd, h4]
      · simp [upd, h5]
      · simp [upd, hk', lastB, hmg, hv0, hio]
      · simp [upd, hk', hw]
      · simp [upds, hb]
      · simp; omega
    · have hv0 : mk[s][i] = true := by simpa using q
      refine .reg xr122_9 (by simp [o122_9, builtinD, lenD, pD, argA, h7]; rfl) ⟨by omega, ?_, ?_, ?_, ?_, ?_, ?_, ?_, ?_⟩
      · simp [upd, h0]
      · simp [upd, h3]
      · simp [upd, h4]
      · simp [upd, h5]
      · simp [upd, hk', lastB, hmg, hv0, h6]
      · simp [upd, hk', hw]
      · simp [upds, hb]
      · simp; omega
  · rintro ⟨A, h⟩ ⟨le, h0, h3, h4, h5, h6, h7, hb, hn⟩
    simp only at h0 h3 h4 h5 h6 h7 hb hn
    rw [cl122_1]
    refine .assoc (.then xr122_8 (by simp [o122_8, builtinD, lenD, pD, argA, h5, h7]; rfl) ?_)
    refine .head (by simp [opd, upd]; rfl) (fun hf => by simp at hf) (fun _ => hQ _ ⟨by omega, ?_, ?_, ?_, ?_, ?_, ?_, ?_, ?_⟩)
    · simp [upd, h0]
    · simp [upd, h3]
    · simp [upd, h4]
    · simp [upd, h5]
    · simp [upd, h6]
    · simp [upd, h7]
    · simp [upds, hb]
    · simp; omega
structure I122 (mk : List (List Bool)) (k : Nat) (st : St) : Prop where
  le : k ≤ mk.length
  h0 : st.A 0 = .frz (mk.map boolRow) .unk
  h3 : ∃ tk, st.A 3 = .frz ((partN mk (mk.length - k)).1.map (D.int .i64)) tk ∧ TokB st.h.blk tk 1 st.h.next ∧ (tk = .nil ↔ mk.length - k = 0)
  h4 : st.A 4 = .int .i64 (partN mk (mk.length - k)).2
  h5 : st.A 5 = .int .i64 ((mk.length - k : Nat) : Int)
theorem spec122 {mk : List (List Bool)} (hsq : Sq mk.length mk) (hl : mk.length ≤ 64) : bodyR 122 [.frz (mk.map boolRow) .unk] = some (.frz ((partN mk mk.length).1.map (D.int .i64)) (tkA' mk)) := by
  refine bodyR_V (run122 _ _ (by simp)) ?_
  unfold b122
  refine .then xr122_0 (by simp [o122_0, builtinD, lenD, pD, argA]; rfl) ?_
  refine .then xr122_1 (by simp [o122_1, builtinD, lenD, pD, argA]; rfl) ?_
  refine .then xr122_2 (by simp [o122_2, builtinD, lenD, pD, argA]; rfl) ?_
  refine .assoc (.then xr122_3 (by simp [o122_3, builtinD, lenD, pD, argA]; rfl) ?_)
  refine .seq (.block (V.count (I122 mk) ?_ ?_ mk.length _ ⟨Nat.le_refl _, by simp [upd, argA], ⟨.nil, by simp [upd, partN], .inl rfl, by simp⟩, by simp [upd, partN], by simp [upd]⟩))
  · rintro k ⟨A, h⟩ ⟨le, h0, ⟨tk, h3, ht, htn⟩, h4, h5⟩
    have hlt : mk.length - (k + 1) < mk.length := by omega
    generalize hi : mk.length - (k + 1) = s at *
    have hk' : mk.length - k = s + 1 := by omega
    have hw : IntKind.i64.wrap ((s : Int) + 1) = ((s + 1 : Nat) : Int) := by rw [wrap_id] <;> omega
    have hpl := partN_len mk s
    generalize hp : partN mk s = p at *
    have hw2 : IntKind.i64.wrap ((p.2 : Int) + 1) = ((p.2 + 1 : Nat) : Int) := by rw [wrap_id] <;> omega
    simp only at h0 h3 h4 h5 ht
    rw [cl122_0]
    refine .assoc (.then xr122_4 (by simp [o122_4, builtinD, lenD, pD, argA, h0, h5]; rfl) ?_)
    refine .head (by simp [opd, upd]; rfl) (fun _ => ?_) (fun hf => by simp [hlt] at hf)
    refine .seq (.block (.then xr122_6 (by simp [o122_6, builtinD, lenD, pD, argA]; rfl) ?_))
    refine .assoc (.then xr122_7 (by simp [o122_7, builtinD, lenD, pD, argA]; rfl) ?_)
    refine .seq (.block (inner122 (n := p.2) (tk := tk) (blk := h.blk) (nx := h.next) hsq hlt hl hpl.1 ?_ s _ ⟨Nat.le_refl _, by simp [upd, h0], by simp [upd, h3], by simp [upd, h4], by simp [upd, h5], by simp [upd, lastB], by simp [upd], by simp [upds], by simp; omega⟩))
    rintro ⟨A1, h1⟩ ⟨_, g0, g3, g4, g5, g6, g7, gb, gn⟩
    simp only at g0 g3 g4 g5 g6 g7 gb gn
    rw [Nat.sub_zero] at g6
    have ht1 : TokB h1.blk tk 1 h1.next := by rw [gb]; exact ht.mono gn (fun b _ hb => hb)
    show V E 122 41 _ _ _
    have tail : ∀ (A2 : Nat → D) (nx : Nat) (b : Int) (n' : Nat) (Q : Po), h1.next ≤ nx → A2 0 = A1 0 → A2 3 = A1 3 → A2 5 = A1 5 → A2 6 = .int .i64 b → A2 4 = .int .i64 n' → partStep mk p s = (p.1 ++ [b], n') → (∀ st, I122 mk k st → Q.n st) → V E 122 41 r122_15 ⟨A2, ⟨nx, h1.blk⟩⟩ ((Q.upto fun s' => V E 122 41 r122_5 s' Q).within 1) := by
      intro A2 nx b n' Q hnx e0 e3 e5 e6 e4 est hq
      have ht2 : TokB h1.blk tk 1 nx := ht1.mono hnx (fun b _ hb => hb)
      have ha : ∀ s, builtinD E.T (E.pol.mu 122) s h1.blk .append [62, 62] [.frz (p.1.map (D.int .i64)) tk, .frz [.int .i64 b] .exact] = some { v := .frz ((p.1 ++ [b]).map (D.int .i64)) (.own s 1), wr := tokWr tk s, rd := tokRd tk } := fun s => app62 mu122 ht2 (by omega)
      rw [g3] at e3
      refine .reg xr122_15 (by simp [o122_15, pD, argA, e3, e6, ha, mu122, mapK, snapDepth, snap_int, kills]; rfl) ?_
      show V E 122 41 r122_5 _ Q
      refine .reg xr122_5 (by simp [o122_5, builtinD, lenD, pD, argA, e5, g5]; rfl) (hq _ ⟨by omega, ?_, ⟨.own (nx + 3) 1, ?_, ?_, by simp; omega⟩, ?_, ?_⟩)
      · simp [upd, e0, g0]
      · simp [upd, hk', partN, hp, est]
      · exact TokB.grow (by simp <;> omega)
      · simp [upd, hk', partN, hp, est, e4]
      · simp [upd, hk', hw]
    refine .assoc (.then xr122_12 (by simp [o122_12, builtinD, lenD, pD, argA, g6]; rfl) ?_)
    refine .seq (.cond (v := decide (lastB mk s p.1 s < 0)) (by simp [opd, upd]) (fun q => ?_) (fun q => .skip ?_))
    · have hlb : lastB mk s p.1 s < 0 := by simpa using q
      refine .then xr122_13 (by simp [o122_13, builtinD, lenD, pD, argA, g4]; rfl) ?_
      refine .reg xr122_14 (by simp [o122_14, builtinD, lenD, pD, argA, g4, hw2]; rfl) ?_
      refine tail _ _ p.2 (p.2 + 1) _ ?_ ?_ ?_ ?_ ?_ ?_ ?_ (fun st hst => hst)
      · omega
      · simp [upd]
      · simp [upd]
      · simp [upd]
      · simp [upd]
      · simp [upd]
      · simp [partStep, hlb]
    · have hlb : ¬ lastB mk s p.1 s < 0 := by simpa using q
      refine tail _ _ (lastB mk s p.1 s) p.2 _ ?_ ?_ ?_ ?_ ?_ ?_ ?_ (fun st hst => hst)
      · omega
      · simp [upd]
      · simp [upd]
      · simp [upd]
      · simp [upd, g6]
      · simp [upd, g4]
      · simp [partStep, hlb]
  · rintro ⟨A, h⟩ ⟨le, h0, ⟨tk, h3, ht, htn⟩, h4, h5⟩
    simp only at h0 h3 h4 h5 ht
    rw [cl122_0]
    refine .assoc (.then xr122_4 (by simp [o122_4, builtinD, lenD, pD, argA, h0, h5]; rfl) ?_)
    refine .head (by simp [opd, upd]; rfl) (fun hf => by simp at hf) (fun _ => ?_)
    refine .then xr122_16 (by simp [o122_16, builtinD, lenD, pD, argA, h3]; rfl) (.ret ⟨_, by simp [resultsD, mapO, resultD, upd]; rfl, ?_⟩)
    rw [show snapDepth = 7 + 2 from rfl, snap_ints]
    have : Tok.fade true tk = tkA' mk := by
      rcases ht with rfl | ⟨o, rfl, _, _⟩
      · have : mk = [] := by have := htn.1 rfl; simpa using this
        subst this; rfl
      · have : mk ≠ [] := fun e => by subst e; have := htn.2 rfl; cases this
        cases mk with
        | nil => exact absurd rfl this
        | cons _ _ => rfl
    simp [this]
end Go.Eng.E3
namespace Go.Eng.E3
open Go Go.Eng Go.Proofs
set_option maxRecDepth 100000
noncomputable def r135_0 : Code := navF Try.f135 [0]
noncomputable def o135_0 : List Oper := [sop (some 0) (.alloc 55) none]
theorem xr135_0 : Xr 135 2 r135_0 o135_0 [] := execI_reg' (by kernel_rfl)
noncomputable def r135_1 : Code := navF Try.f135 [1, 0]
noncomputable def o135_1 : List Oper := [sop (some 1) (.build 55 #[(0, (.const (.int .i64 (-1)))), (1, (.const (.int .i64 (-1))))]) none,
    sop none (.store 55 (.tmp 0) (.tmp 1)) none]
theorem xr135_1 : Xr 135 2 r135_1 o135_1 [] := execI_reg' (by kernel_rfl)
noncomputable def b135 : Code := (.seq r135_0 (.seq r135_1 .ret))
theorem body135 : Try.f135.body = some b135 := by kernel_rfl
theorem fn135 : E.fn 135 = some Try.f135 := by kernel_rfl
theorem run135 (args : List D) (h : H) (hl : args.length ≤ 2) : bodyI E 135 args h = resOf E [(.cell 0 55)] (execI E 135 2 b135 ⟨argA args, h⟩) := bodyI_res fn135 body135 rfl rfl args h hl
noncomputable def r108_0 : Code := navF Try.f108 [0]
noncomputable def o108_0 : List Oper := [sop (some 2) (.box 34 (.tmp 0)) none,
    sop (some 3) (.box 55 (.tmp 1)) none,
    sop (some 4) (.assign (.const (.bool false))) none]
theorem xr108_0 : Xr 108 33 r108_0 o108_0 [] := execI_reg' (by kernel_rfl)
noncomputable def r108_1 : Code := navF Try.f108 [1, 0]
noncomputable def o108_1 : List Oper := [sop (some 5) (.load 55 (.tmp 3)) none,
    sop (some 6) (.call { callee := (.value (.func 135)), args := #[], argTypes := #[] }) none,
    sop (some 7) (.binOp .eql 55 (.tmp 5) (.tmp 6) 55) none,
    sop (some 8) (.move (.tmp 7)) none,
    sop (some 9) (.fieldAddr 55 (.tmp 3) 0) (some (3, false)),
    sop (some 10) (.load 3 (.tmp 9)) (some (3, false)),
    sop (some 11) (.binOp .geq 3 (.tmp 10) (.const (.int .i64 0)) 3) (some (3, false)),
    sop (some 12) (.move (.tmp 11)) (some (3, false)),
    sop (some 13) (.fieldAddr 55 (.tmp 3) 0) (some (7, true)),
    sop (some 14) (.load 3 (.tmp 13)) (some (7, true)),
    sop (some 15) (.fieldAddr 34 (.tmp 2) 2) (some (7, true)),
    sop (some 16) (.load 32 (.tmp 15)) (some (7, true)),
    sop (some 17) (.call { callee := (.builtin .len), args := #[(.tmp 16)], argTypes := #[32] }) (some (7, true)),
    sop (some 18) (.binOp .lss 3 (.tmp 14) (.tmp 17) 3) (some (7, true)),
    sop (some 19) (.pick (.tmp 12) (.tmp 18) (.const (.bool false))) (some (3, false)),
    sop (some 20) (.move (.tmp 19)) (some (3, false)),
    sop (some 21) (.fieldAddr 55 (.tmp 3) 1) (some (15, true)),
    sop (some 22) (.load 3 (.tmp 21)) (some (15, true)),
    sop (some 23) (.binOp .geq 3 (.tmp 22) (.const (.int .i64 0)) 3) (some (15, true)),
    sop (some 24) (.pick (.tmp 20) (.tmp 23) (.const (.bool false))) (some (3, false)),
    sop (some 25) (.move (.tmp 24)) (some (3, false)),
    sop (some 26) (.fieldAddr 55 (.tmp 3) 1) (some (20, true)),
    sop (some 27) (.load 3 (.tmp 26)) (some (20, true)),
    sop (some 28) (.fieldAddr 34 (.tmp 2) 1) (some (20, true)),
    sop (some 29) (.load 3 (.tmp 28)) (some (20, true)),
    sop (some 30) (.binOp .lss 3 (.tmp 27) (.tmp 29) 3) (some (20, true)),
    sop (some 31) (.pick (.tmp 25) (.tmp 30) (.const (.bool false))) (some (3, false)),
    sop (some 32) (.pick (.tmp 8) (.const (.bool true)) (.tmp 31)) none,
    sop (some 4) (.assign (.tmp 32)) none]
theorem xr108_1 : Xr 108 33 r108_1 o108_1 [(0, 1), (9, 11), (9, 12), (22, 24)] := execI_reg' (by kernel_rfl)
noncomputable def b108 : Code := (.seq r108_0 (.seq r108_1 .ret))
theorem body108 : Try.f108.body = some b108 := by kernel_rfl
theorem fn108 : E.fn 108 = some Try.f108 := by kernel_rfl
theorem run108 (args : List D) (h : H) (hl : args.length ≤ 33) : bodyI E 108 args h = resOf E [(.tmp 4)] (execI E 108 33 b108 ⟨argA args, h⟩) := bodyI_res fn108 body108 rfl rfl args h hl
noncomputable def r107_0 : Code := navF Try.f107 [0]
noncomputable def o107_0 : List Oper := [sop (some 2) (.box 55 (.tmp 0)) none,
    sop (some 3) (.assign (.const (.bool false))) none]
theorem xr107_0 : Xr 107 8 r107_0 o107_0 [] := execI_reg' (by kernel_rfl)
noncomputable def r107_1 : Code := navF Try.f107 [1, 0]
noncomputable def o107_1 : List Oper := [sop (some 4) (.load 34 (.tmp 1)) none,
    sop (some 5) (.load 55 (.tmp 2)) none,
    sop (some 6) (.call { callee := (.value (.func 108)), args := #[(.tmp 4), (.tmp 5)], argTypes := #[34, 55] }) none,
    sop (some 7) (.unOp .not 4 (.tmp 6)) none,
    sop (some 3) (.assign (.tmp 7)) none]
theorem xr107_1 : Xr 107 8 r107_1 o107_1 [] := execI_reg' (by kernel_rfl)
noncomputable def b107 : Code := (.seq r107_0 (.seq r107_1 .ret))
theorem body107 : Try.f107.body = some b107 := by kernel_rfl
theorem fn107 : E.fn 107 = some Try.f107 := by kernel_rfl
theorem run107 (args : List D) (h : H) (hl : args.length ≤ 8) : bodyI E 107 args h = resOf E [(.tmp 3)] (execI E 107 8 b107 ⟨argA args, h⟩) := bodyI_res fn107 body107 rfl rfl args h hl
noncomputable def r134_0 : Code := navF Try.f134 [0]
noncomputable def o134_0 : List Oper := [sop (some 4) (.assign (.const (.int .i64 0))) none]
theorem xr134_0 : Xr 134 19 r134_0 o134_0 [] := execI_reg' (by kernel_rfl)
noncomputable def r134_1 : Code := navF Try.f134 [1, 0, 0]
noncomputable def o134_1 : List Oper := [sop (some 6) (.move (.tmp 0)) none,
    sop (some 7) (.call { callee := (.builtin .len), args := #[(.tmp 6)], argTypes := #[72] }) none,
    sop (some 8) (.move (.const (.int .i64 0))) none]
theorem xr134_1 : Xr 134 19 r134_1 o134_1 [] := execI_reg' (by kernel_rfl)
noncomputable def l134_0 : Code := navF Try.f134 [1, 0, 1, 0, 0]
noncomputable def r134_2 : Code := navF Try.f134 [1, 0, 1, 0, 0, 0]
noncomputable def o134_2 : List Oper := [sop (some 9) (.binOp .lss 3 (.tmp 8) (.tmp 7) 3) none]
theorem xr134_2 : Xr 134 19 r134_2 o134_2 [] := execI_reg' (by kernel_rfl)
noncomputable def r134_3 : Code := navF Try.f134 [1, 0, 1, 0, 0, 1, 1, 0, 0, 0]
noncomputable def o134_3 : List Oper := [sop (some 10) (.move (.tmp 8)) none,
    sop (some 5) (.assign (.tmp 10)) none]
theorem xr134_3 : Xr 134 19 r134_3 o134_3 [] := execI_reg' (by kernel_rfl)
noncomputable def r134_4 : Code := navF Try.f134 [1, 0, 1, 0, 0, 1, 1, 0, 0, 1, 0]
noncomputable def o134_4 : List Oper := [sop (some 11) (.move (.tmp 1)) none,
    sop (some 12) (.move (.tmp 0)) none,
    sop (some 13) (.move (.tmp 5)) none,
    sop (some 14) (.indexAddr 72 (.tmp 12) (.tmp 13)) none,
    sop (some 15) (.load 55 (.tmp 14)) none,
    sop (some 16) (.call { callee := (.value (.tmp 11)), args := #[(.tmp 15)], argTypes := #[55] }) none]
theorem xr134_4 : Xr 134 19 r134_4 o134_4 [] := execI_reg' (by kernel_rfl)
noncomputable def r134_5 : Code := navF Try.f134 [1, 0, 1, 0, 0, 1, 1, 0, 0, 1, 1, 0, 0]
noncomputable def r134_6 : Code := navF Try.f134 [1, 0, 1, 0, 0, 1, 1, 1]
noncomputable def o134_6 : List Oper := [sop (some 18) (.binOp .add 3 (.tmp 8) (.const (.int .i64 1)) 3) none,
    sop (some 8) (.move (.tmp 18)) none]
theorem xr134_6 : Xr 134 19 r134_6 o134_6 [] := execI_reg' (by kernel_rfl)
theorem cl134_0 : l134_0 = (.seq r134_2 (.seq (.cond (.tmp 9) .skip (.exit 0)) (.seq (.block 1 (.seq r134_3 (.seq r134_4 (.cond (.tmp 16) (.seq r134_5 .ret) .skip)))) r134_6))) := by kernel_rfl
noncomputable def r134_7 : Code := navF Try.f134 [1, 1, 0]
noncomputable def o134_7 : List Oper := [sop (some 4) (.assign (.const (.int .i64 (-1)))) none]
theorem xr134_7 : Xr 134 19 r134_7 o134_7 [] := execI_reg' (by kernel_rfl)
noncomputable def b134 : Code := (.seq r134_0 (.seq (.seq r134_1 (.block 0 (.loop l134_0))) (.seq r134_7 .ret)))
theorem body134 : Try.f134.body = some b134 := by kernel_rfl
theorem fn134 : E.fn 134 = some Try.f134 := by kernel_rfl
theorem run134 (args : List D) (h : H) (hl : args.length ≤ 19) : bodyI E 134 args h = resOf E [(.tmp 4)] (execI E 134 19 b134 ⟨argA args, h⟩) := bodyI_res fn134 body134 rfl rfl args h hl
noncomputable def r106_0 : Code := navF Try.f106 [0]
noncomputable def o106_0 : List Oper := [sop (some 4) (.assign (.const (.bool false))) none]
theorem xr106_0 : Xr 106 9 r106_0 o106_0 [] := execI_reg' (by kernel_rfl)
noncomputable def r106_1 : Code := navF Try.f106 [1, 0]
noncomputable def o106_1 : List Oper := [sop (some 5) (.move (.tmp 0)) none,
    sop (some 6) (.move (.tmp 1)) none,
    sop (some 7) (.call { callee := (.value (.func 134)), args := #[(.tmp 5), (.tmp 6)], argTypes := #[72, 163] }) none,
    sop (some 8) (.binOp .geq 3 (.tmp 7) (.const (.int .i64 0)) 3) none,
    sop (some 4) (.assign (.tmp 8)) none]
theorem xr106_1 : Xr 106 9 r106_1 o106_1 [] := execI_reg' (by kernel_rfl)
noncomputable def b106 : Code := (.seq r106_0 (.seq r106_1 .ret))
theorem body106 : Try.f106.body = some b106 := by kernel_rfl
theorem fn106 : E.fn 106 = some Try.f106 := by kernel_rfl
theorem run106 (args : List D) (h : H) (hl : args.length ≤ 9) : bodyI E 106 args h = resOf E [(.tmp 4)] (execI E 106 9 b106 ⟨argA args, h⟩) := bodyI_res fn106 body106 rfl rfl args h hl
noncomputable def r85_0 : Code := navF Try.f85 [0]
noncomputable def o85_0 : List Oper := [sop (some 1) (.box 34 (.tmp 0)) none,
    sop (some 2) (.assign (.const (.int .i64 0))) none]
theorem xr85_0 : Xr 85 51 r85_0 o85_0 [] := execI_reg' (by kernel_rfl)
noncomputable def r85_1 : Code := navF Try.f85 [1, 0, 0]
noncomputable def o85_1 : List Oper := [sop (some 5) (.fieldAddr 34 (.tmp 1) 0) none,
    sop (some 6) (.load 3 (.tmp 5)) none,
    sop (some 7) (.binOp .gtr 3 (.tmp 6) (.const (.int .i64 16)) 3) none,
    sop (some 8) (.move (.tmp 7)) none,
    sop (some 9) (.fieldAddr 34 (.tmp 1) 1) (some (3, false)),
    sop (some 10) (.load 3 (.tmp 9)) (some (3, false)),
    sop (some 11) (.binOp .gtr 3 (.tmp 10) (.const (.int .i64 16)) 3) (some (3, false)),
    sop (some 12) (.pick (.tmp 8) (.const (.bool true)) (.tmp 11)) none,
    sop (some 13) (.move (.tmp 12)) none,
    sop (some 14) (.fieldAddr 34 (.tmp 1) 2) (some (8, false)),
    sop (some 15) (.load 32 (.tmp 14)) (some (8, false)),
    sop (some 16) (.call { callee := (.builtin .len), args := #[(.tmp 15)], argTypes := #[32] }) (some (8, false)),
    sop (some 17) (.binOp .gtr 3 (.tmp 16) (.const (.int .i64 64)) 3) (some (8, false)),
    sop (some 18) (.pick (.tmp 13) (.const (.bool true)) (.tmp 17)) none]
theorem xr85_1 : Xr 85 51 r85_1 o85_1 [] := execI_reg' (by kernel_rfl)
noncomputable def r85_2 : Code := navF Try.f85 [1, 0, 1, 0, 0]
noncomputable def r85_3 : Code := navF Try.f85 [1, 1, 0, 0]
noncomputable def o85_3 : List Oper := [sop (some 19) (.fieldAddr 34 (.tmp 1) 0) none,
    sop (some 20) (.load 3 (.tmp 19)) none,
    sop (some 21) (.binOp .lss 3 (.tmp 20) (.const (.int .i64 1)) 3) none,
    sop (some 22) (.move (.tmp 21)) none,
    sop (some 23) (.fieldAddr 34 (.tmp 1) 1) (some (3, false)),
    sop (some 24) (.load 3 (.tmp 23)) (some (3, false)),
    sop (some 25) (.binOp .lss 3 (.tmp 24) (.const (.int .i64 1)) 3) (some (3, false)),
    sop (some 26) (.pick (.tmp 22) (.const (.bool true)) (.tmp 25)) none,
    sop (some 27) (.move (.tmp 26)) none,
    sop (some 28) (.fieldAddr 34 (.tmp 1) 2) (some (8, false)),
    sop (some 29) (.load 32 (.tmp 28)) (some (8, false)),
    sop (some 30) (.call { callee := (.builtin .len), args := #[(.tmp 29)], argTypes := #[32] }) (some (8, false)),
    sop (some 31) (.binOp .lss 3 (.tmp 30) (.const (.int .i64 1)) 3) (some (8, false)),
    sop (some 32) (.pick (.tmp 27) (.const (.bool true)) (.tmp 31)) none]
theorem xr85_3 : Xr 85 51 r85_3 o85_3 [] := execI_reg' (by kernel_rfl)
noncomputable def r85_4 : Code := navF Try.f85 [1, 1, 0, 1, 0, 0]
noncomputable def r85_5 : Code := navF Try.f85 [1, 1, 1, 0, 0]
noncomputable def o85_5 : List Oper := [sop (some 33) (.fieldAddr 34 (.tmp 1) 2) none,
    sop (some 34) (.load 32 (.tmp 33)) none,
    sop (some 35) (.call { callee := (.builtin .len), args := #[(.tmp 34)], argTypes := #[32] }) none,
    sop (some 36) (.move (.const (.int .i64 0))) none]
theorem xr85_5 : Xr 85 51 r85_5 o85_5 [] := execI_reg' (by kernel_rfl)
noncomputable def l85_0 : Code := navF Try.f85 [1, 1, 1, 0, 1, 0, 0]
noncomputable def r85_6 : Code := navF Try.f85 [1, 1, 1, 0, 1, 0, 0, 0]
noncomputable def o85_6 : List Oper := [sop (some 37) (.binOp .lss 3 (.tmp 36) (.tmp 35) 3) none]
theorem xr85_6 : Xr 85 51 r85_6 o85_6 [] := execI_reg' (by kernel_rfl)
noncomputable def r85_7 : Code := navF Try.f85 [1, 1, 1, 0, 1, 0, 0, 1, 1, 0, 0, 0]
noncomputable def o85_7 : List Oper := [sop (some 38) (.indexAddr 32 (.tmp 34) (.tmp 36)) none,
    sop (some 39) (.load 72 (.tmp 38)) none,
    sop (some 4) (.assign (.tmp 39)) none]
theorem xr85_7 : Xr 85 51 r85_7 o85_7 [] := execI_reg' (by kernel_rfl)
noncomputable def r85_8 : Code := navF Try.f85 [1, 1, 1, 0, 1, 0, 0, 1, 1, 0, 0, 1, 0]
noncomputable def o85_8 : List Oper := [sop (some 40) (.move (.tmp 4)) none,
    sop (some 41) (.call { callee := (.builtin .len), args := #[(.tmp 40)], argTypes := #[72] }) none,
    sop (some 42) (.fieldAddr 34 (.tmp 1) 0) none,
    sop (some 43) (.load 3 (.tmp 42)) none,
    sop (some 44) (.binOp .neq 3 (.tmp 41) (.tmp 43) 3) none,
    sop (some 45) (.move (.tmp 44)) none,
    sop (some 46) (.move (.tmp 4)) (some (5, false)),
    sop (some 47) (.makeFunc (.func 107) #[] #[(.tmp 1)]) (some (5, false)),
    sop (some 48) (.call { callee := (.value (.func 106)), args := #[(.tmp 46), (.tmp 47)], argTypes := #[72, 163] }) (some (5, false)),
    sop (some 49) (.pick (.tmp 45) (.const (.bool true)) (.tmp 48)) none]
theorem xr85_8 : Xr 85 51 r85_8 o85_8 [] := execI_reg' (by kernel_rfl)
noncomputable def r85_9 : Code := navF Try.f85 [1, 1, 1, 0, 1, 0, 0, 1, 1, 0, 0, 1, 1, 0, 0]
noncomputable def r85_10 : Code := navF Try.f85 [1, 1, 1, 0, 1, 0, 0, 1, 1, 1]
noncomputable def o85_10 : List Oper := [sop (some 50) (.binOp .add 3 (.tmp 36) (.const (.int .i64 1)) 3) none,
    sop (some 36) (.move (.tmp 50)) none]
theorem xr85_10 : Xr 85 51 r85_10 o85_10 [] := execI_reg' (by kernel_rfl)
theorem cl85_0 : l85_0 = (.seq r85_6 (.seq (.cond (.tmp 37) .skip (.exit 0)) (.seq (.block 1 (.seq r85_7 (.seq r85_8 (.cond (.tmp 49) (.seq r85_9 .ret) .skip)))) r85_10))) := by kernel_rfl
noncomputable def r85_11 : Code := navF Try.f85 [1, 1, 1, 1, 0]
noncomputable def o85_11 : List Oper := [sop (some 2) (.assign (.const (.int .i64 0))) none]
theorem xr85_11 : Xr 85 51 r85_11 o85_11 [] := execI_reg' (by kernel_rfl)
noncomputable def b85 : Code := (.seq r85_0 (.seq (.seq r85_1 (.cond (.tmp 18) (.seq r85_2 .ret) .skip)) (.seq (.seq r85_3 (.cond (.tmp 32) (.seq r85_4 .ret) .skip)) (.seq (.seq r85_5 (.block 0 (.loop l85_0))) (.seq r85_11 .ret)))))
theorem body85 : Try.f85.body = some b85 := by kernel_rfl
theorem fn85 : E.fn 85 = some Try.f85 := by kernel_rfl
theorem run85 (args : List D) (h : H) (hl : args.length ≤ 51) : bodyI E 85 args h = resOf E [(.tmp 2)] (execI E 85 51 b85 ⟨argA args, h⟩) := bodyI_res fn85 body85 rfl rfl args h hl
noncomputable def r59_0 : Code := navF Try.f59 [0]
noncomputable def o59_0 : List Oper := [sop (some 2) (.box 34 (.tmp 0)) none,
    sop (some 3) (.box 34 (.tmp 1)) none,
    sop (some 4) (.assign (.const (.int .i64 0))) none]
theorem xr59_0 : Xr 59 22 r59_0 o59_0 [] := execI_reg' (by kernel_rfl)
noncomputable def r59_1 : Code := navF Try.f59 [1, 0]
noncomputable def o59_1 : List Oper := [sop (some 6) (.load 34 (.tmp 2)) none,
    sop (some 7) (.call { callee := (.value (.func 85)), args := #[(.tmp 6)], argTypes := #[34] }) none,
    sop (some 8) (.load 34 (.tmp 3)) none,
    sop (some 9) (.call { callee := (.value (.func 85)), args := #[(.tmp 8)], argTypes := #[34] }) none,
    sop (some 10) (.buildSlice 160 2 #[(0, (.tmp 7)), (1, (.tmp 9))]) none,
    sop (some 11) (.call { callee := (.value (.func 84)), args := #[(.tmp 10)], argTypes := #[160] }) none,
    sop (some 5) (.assign (.tmp 11)) none]
theorem xr59_1 : Xr 59 22 r59_1 o59_1 [(0, 2), (1, 2)] := execI_reg' (by kernel_rfl)
noncomputable def r59_2 : Code := navF Try.f59 [1, 1, 0, 0]
noncomputable def o59_2 : List Oper := [sop (some 12) (.move (.tmp 5)) none,
    sop (some 13) (.binOp .eql 40 (.tmp 12) (.const (.int .i64 0)) 40) none,
    sop (some 14) (.move (.tmp 13)) none,
    sop (some 15) (.fieldAddr 34 (.tmp 2) 0) (some (2, true)),
    sop (some 16) (.load 3 (.tmp 15)) (some (2, true)),
    sop (some 17) (.fieldAddr 34 (.tmp 3) 0) (some (2, true)),
    sop (some 18) (.load 3 (.tmp 17)) (some (2, true)),
    sop (some 19) (.binOp .neq 3 (.tmp 16) (.tmp 18) 3) (some (2, true)),
    sop (some 20) (.pick (.tmp 14) (.tmp 19) (.const (.bool false))) none]
theorem xr59_2 : Xr 59 22 r59_2 o59_2 [] := execI_reg' (by kernel_rfl)
noncomputable def r59_3 : Code := navF Try.f59 [1, 1, 0, 1, 0]
noncomputable def r59_4 : Code := navF Try.f59 [1, 1, 1, 0]
noncomputable def o59_4 : List Oper := [sop (some 21) (.move (.tmp 5)) none,
    sop (some 4) (.assign (.tmp 21)) none]
theorem xr59_4 : Xr 59 22 r59_4 o59_4 [] := execI_reg' (by kernel_rfl)
noncomputable def b59 : Code := (.seq r59_0 (.seq r59_1 (.seq (.seq r59_2 (.cond (.tmp 20) r59_3 .skip)) (.seq r59_4 .ret))))
theorem body59 : Try.f59.body = some b59 := by kernel_rfl
theorem fn59 : E.fn 59 = some Try.f59 := by kernel_rfl
theorem run59 (args : List D) (h : H) (hl : args.length ≤ 22) : bodyI E 59 args h = resOf E [(.tmp 4)] (execI E 59 22 b59 ⟨argA args, h⟩) := bodyI_res fn59 body59 rfl rfl args h hl
end Go.Eng.E3
namespace Go.Eng.E3
open Go Go.Eng Go.Proofs
set_option maxRecDepth 100000
attribute [local simp] execR runOps stepOp wantedD evalOp opd upd St.put Eff.apply upds looseOk FP.free FP.idle apart Eff.fp ofVal loadD storeD partD setPart indexAddrD isShift arith unD callOp mapO D.okc pickD buildable buildD placeD convD
set_option linter.unusedSimpArgs false
set_option maxHeartbeats 1000000
theorem spec135 : bodyR 135 [] = some (.agg [.int .i64 (-1), .int .i64 (-1)]) := by
  refine bodyR_V (run135 _ _ (by simp)) ?_
  unfold b135
  refine .then xr135_0 (by simp [o135_0, builtinD, lenD, pD, argA]; rfl) ?_
  refine .then xr135_1 (by simp [o135_1, builtinD, lenD, pD, argA, Array.toList, buildable, buildD, placeD]; rfl) ?_
  refine .ret ⟨_, by simp [resultsD, mapO, resultD, upd, loadD, partD]; rfl, by simp [snap, snapDepth, mapK]⟩
theorem call135 (h : H) : callI E (.fn 135 []) [] h = some (.agg [.int .i64 (-1), .int .i64 (-1)], h, {}) :=
  call_pure (xs := []) (by decide) rfl spec135
theorem spec108 {m : M} {e : Int × Int} (_hm : m.rows.length < 2 ^ 62) (he : EdgeOk m e) : bodyR 108 [encM m, pD e] = some (.bool true) := by
  refine bodyR_V (run108 _ _ (by simp)) ?_
  unfold b108
  refine .then xr108_0 (by simp [o108_0, builtinD, lenD, pD, argA, encM]; rfl) ?_
  rcases he with rfl | ⟨h1, h2, h3, h4⟩
  · refine .then xr108_1 (by simp [o108_1, builtinD, lenD, pD, argA, encM, call135]; rfl) ?_
    refine .ret ⟨_, by simp [resultsD, mapO, resultD, upd, loadD, partD]; rfl, by simp [snap, snapDepth, mapK]⟩
  · have hne : ¬ (e.1 = -1 ∧ e.2 = -1) := by omega
    have hne1 : ¬ (e.1 = -1) := by omega
    refine .then xr108_1 (by simp [o108_1, builtinD, lenD, pD, argA, encM, call135, h1, h2, h3, h4, hne, hne1]; rfl) ?_
    refine .ret ⟨_, by simp [resultsD, mapO, resultD, upd, loadD, partD]; rfl, by simp [snap, snapDepth, mapK]⟩
theorem call108 {m : M} {e : Int × Int} (hm : m.rows.length < 2 ^ 62) (he : EdgeOk m e) (h : H) : callI E (.fn 108 []) [.agg [.int .i64 m.ins, .int .i64 m.outs, .frz (m.rows.map rowD) .unk], .agg [.int .i64 e.1, .int .i64 e.2]] h = some (.bool true, h, {}) :=
  call_pure (by decide) (snaps2 (snap_encM _ _ 4 m) (snap_pD _ _ 7 e)) (spec108 hm he)
theorem spec107 {m : M} {e : Int × Int} (hm : m.rows.length < 2 ^ 62) (he : EdgeOk m e) : bodyR 107 [pD e, .iref (encM m)] = some (.bool false) := by
  refine bodyR_V (run107 _ _ (by simp)) ?_
  unfold b107
  refine .then xr107_0 (by simp [o107_0, builtinD, lenD, pD, argA]; rfl) ?_
  refine .then xr107_1 (by simp [o107_1, builtinD, lenD, pD, argA, encM, call108 hm he]; rfl) ?_
  refine .ret ⟨_, by simp [resultsD, mapO, resultD, upd]; rfl, by simp [snap, snapDepth]⟩
theorem call107 {m : M} {e : Int × Int} (hm : m.rows.length < 2 ^ 62) (he : EdgeOk m e) (h : H) : callI E (.fn 107 [.iref (encM m)]) [.agg [.int .i64 e.1, .int .i64 e.2]] h = some (.bool false, h, {}) :=
  call_cap (ks := []) (by decide) (snaps2 (snap_pD _ _ 7 e) (snap_iref _ _ 8 (snap_encM _ _ 3 m))) (spec107 hm he) (fun h => by cases h)
structure I134 (m : M) (row : List (Int × Int)) (tk : Tok) (k : Nat) (s : St) : Prop where
  le : k ≤ row.length
  h0 : s.A 0 = .frz (row.map pD) tk
  h1 : s.A 1 = .fn 107 [.iref (encM m)]
  h7 : s.A 7 = .int .i64 row.length
  h8 : s.A 8 = .int .i64 ((row.length - k : Nat) : Int)
theorem spec134 {m : M} {row : List (Int × Int)} (hm : m.rows.length < 2 ^ 62) (hL : row.length < 2 ^ 62) (he : ∀ e ∈ row, EdgeOk m e) : bodyR 134 [.frz (row.map pD) .unk, .fn 107 [.iref (encM m)]] = some (.int .i64 (-1)) := by
  refine bodyR_V (run134 _ _ (by simp)) ?_
  unfold b134
  refine .then xr134_0 (by simp [o134_0, builtinD, lenD, pD, argA]; rfl) ?_
  refine .assoc (.then xr134_1 (by simp [o134_1, builtinD, lenD, pD, argA]; rfl) ?_)
  refine .seq (.block (V.count (I134 m row .unk) ?_ ?_ row.length _ ⟨Nat.le_refl _, by simp [upd, argA], by simp [upd, argA], by simp [upd], by simp [upd]⟩))
  · rintro k ⟨A, h⟩ ⟨le, h0, h1, h7, h8⟩
    have hlt : row.length - (k + 1) < row.length := by omega
    generalize hi : row.length - (k + 1) = i at *
    have hk : row.length - k = i + 1 := by omega
    have hw : IntKind.i64.wrap ((i : Int) + 1) = ((i + 1 : Nat) : Int) := by rw [wrap_id] <;> omega
    have hei := he row[i] (List.getElem_mem hlt)
    rw [cl134_0]
    simp only at h0 h1 h7 h8
    refine .then xr134_2 (by simp [o134_2, builtinD, lenD, pD, argA, h7, h8]; rfl) ?_
    refine .head (by simp [opd, upd]; rfl) (fun _ => ?_) (fun hf => by simp [hlt] at hf)
    refine .seq (.block (.then xr134_3 (by simp [o134_3, builtinD, lenD, pD, argA, h8]; rfl) ?_))
    refine .then xr134_4 (by simp [o134_4, builtinD, lenD, pD, argA, h0, h1, h8, hlt, call107 hm hei]; rfl) ?_
    refine .cond (by simp [opd, upd]; rfl) (fun ht => by cases ht) (fun hf => .skip ?_)
    refine .reg xr134_6 (by simp [o134_6, builtinD, lenD, pD, argA, h8]; rfl) ⟨by omega, ?_, ?_, ?_, ?_⟩
    · simp [upd, h0]
    · simp [upd, h1]
    · simp [upd, h7]
    · simp [upd, hk, hw]
  · rintro ⟨A, h⟩ ⟨le, h0, h1, h7, h8⟩
    simp only at h0 h1 h7 h8
    rw [cl134_0]
    refine .then xr134_2 (by simp [o134_2, builtinD, lenD, pD, argA, h7, h8]; rfl) ?_
    refine .head (by simp [opd, upd]; rfl) (fun hf => by simp at hf) (fun _ => ?_)
    exact .then xr134_7 (by simp [o134_7, builtinD, lenD, pD, argA]; rfl) (.ret ⟨_, by simp [resultsD, mapO, resultD, upd]; rfl, by simp [snap, snapDepth]⟩)
theorem call134 {m : M} {row : List (Int × Int)} (hm : m.rows.length < 2 ^ 62) (hL : row.length < 2 ^ 62) (he : ∀ e ∈ row, EdgeOk m e) (h : H) : callI E (.fn 134 []) [.frz (row.map pD) .unk, .fn 107 [.iref (encM m)]] h = some (.int .i64 (-1), h, {}) :=
  call_pure (by decide) (snaps2 (snap_rowD _ _ 6 row) (snap_fn1 _ _ 8 (snap_iref _ _ 7 (snap_encM _ _ 2 m)))) (spec134 hm hL he)
theorem spec106 {m : M} {row : List (Int × Int)} (hm : m.rows.length < 2 ^ 62) (hL : row.length < 2 ^ 62) (he : ∀ e ∈ row, EdgeOk m e) : bodyR 106 [.frz (row.map pD) .unk, .fn 107 [.iref (encM m)]] = some (.bool false) := by
  refine bodyR_V (run106 _ _ (by simp)) ?_
  unfold b106
  refine .then xr106_0 (by simp [o106_0, builtinD, lenD, pD, argA]; rfl) ?_
  refine .then xr106_1 (by simp [o106_1, builtinD, lenD, pD, argA, call134 hm hL he]; rfl) ?_
  refine .ret ⟨_, by simp [resultsD, mapO, resultD, upd]; rfl, by simp [snap, snapDepth]⟩
theorem call106 {m : M} {row : List (Int × Int)} (hm : m.rows.length < 2 ^ 62) (hL : row.length < 2 ^ 62) (he : ∀ e ∈ row, EdgeOk m e) {h : H} {b : Nat} (hb : h.blk b = .live 3 [encM m]) : callI E (.fn 106 []) [.frz (row.map pD) .unk, .fn 107 [.ptr b 0 0]] h = some (.bool false, h, { rd := [b] }) :=
  call_cap (ks := [b]) (by decide) (by
    simp only [List.append_nil, mapK]
    rw [show snap (E.pol.args 106) h.blk snapDepth (.frz (row.map pD) .unk) = some (.frz (row.map pD) .unk, []) from snap_rowD _ _ 6 row, show snap (E.pol.args 106) h.blk snapDepth (.fn 107 [.ptr b 0 0]) = some (.fn 107 [.iref (encM m)], [b]) from snap_fn1 _ _ 8 (snap_ptr _ _ 7 hb (snap_encM _ _ 2 m))]
    rfl) (spec106 hm hL he) (fun _ => rfl)
structure I85 (m : M) (k : Nat) (s : St) : Prop where
  le : k ≤ m.rows.length
  h1 : s.A 1 = .ptr 0 0 0
  h34 : s.A 34 = .frz (m.rows.map rowD) .unk
  h35 : s.A 35 = .int .i64 m.rows.length
  h36 : s.A 36 = .int .i64 ((m.rows.length - k : Nat) : Int)
  hb : s.h.blk 0 = .live 3 [encM m]
  hn : 0 < s.h.next
theorem spec85 {m : M} (hv : Valid m) : bodyR 85 [encM m] = some (.int .i64 0) := by
  have i1 := hv.i1
  have i2 := hv.i2
  have o1 := hv.o1
  have o2 := hv.o2
  have r1 := hv.r1
  have r2 := hv.r2
  have q1 : ¬ (16 : Int) < m.ins := by omega
  have q2 : ¬ (16 : Int) < m.outs := by omega
  have q3 : ¬ (64 : Int) < m.rows.length := by omega
  have q4 : ¬ (m.ins : Int) < 1 := by omega
  have q5 : ¬ (m.outs : Int) < 1 := by omega
  have q6 : ¬ (m.rows.length : Int) < 1 := by omega
  refine bodyR_V (run85 _ _ (by simp)) ?_
  unfold b85
  refine .then xr85_0 (by simp [o85_0, builtinD, lenD, pD, argA, encM]; rfl) ?_
  refine .assoc (.then xr85_1 (by simp [o85_1, builtinD, lenD, pD, argA, q1, q2, q3]; rfl) ?_)
  refine .seq (.cond (by simp [opd, upd]; rfl) (fun ht => by simp at ht) (fun _ => .skip ?_))
  refine .assoc (.then xr85_3 (by simp [o85_3, builtinD, lenD, pD, argA, q4, q5, q6]; rfl) ?_)
  refine .seq (.cond (by simp [opd, upd]; rfl) (fun ht => by simp at ht) (fun _ => .skip ?_))
  refine .assoc (.then xr85_5 (by simp [o85_5, builtinD, lenD, pD, argA]; rfl) ?_)
  refine .seq (.block (V.count (I85 m) ?_ ?_ m.rows.length _ ⟨Nat.le_refl _, by simp [upd, argA], by simp [upd, argA], by simp [upd], by simp [upd], by simp [upd, encM], by simp⟩))
  · rintro k ⟨A, h⟩ ⟨le, h1, h34, h35, h36, hb, hn⟩
    have hlt : m.rows.length - (k + 1) < m.rows.length := by omega
    generalize hi : m.rows.length - (k + 1) = i at *
    have hk : m.rows.length - k = i + 1 := by omega
    have hw : IntKind.i64.wrap ((i : Int) + 1) = ((i + 1 : Nat) : Int) := by rw [wrap_id] <;> omega
    have hlen : m.rows[i].length = m.ins := hv.len _ (List.getElem_mem hlt)
    have hei := hv.ok _ (List.getElem_mem hlt)
    rw [cl85_0]
    simp only at h1 h34 h35 h36 hb hn
    refine .then xr85_6 (by simp [o85_6, builtinD, lenD, pD, argA, h35, h36]; rfl) ?_
    refine .head (by simp [opd, upd]; rfl) (fun _ => ?_) (fun hf => by simp [hlt] at hf)
    refine .seq (.block (.then xr85_7 (by simp [o85_7, builtinD, lenD, pD, argA, h34, h36, hlt, rowD]; rfl) ?_))
    have c106 : ∀ h' : H, h'.blk 0 = h.blk 0 → callI E (.fn 106 []) [.frz (m.rows[i].map pD) .unk, .fn 107 [.ptr 0 0 0]] h' = some (.bool false, h', { rd := [0] }) := fun h' e => call106 (by omega) (by omega) hei (e.trans hb)
    refine .then xr85_8 (by simp [o85_8, builtinD, lenD, pD, argA, h1, hb, encM, hlen, c106, List.toList_toArray]; rfl) ?_
    refine .cond (by simp [opd, upd]; rfl) (fun ht => by cases ht) (fun hf => .skip ?_)
    refine .reg xr85_10 (by simp [o85_10, builtinD, lenD, pD, argA, h36]; rfl) ⟨by omega, ?_, ?_, ?_, ?_, ?_, ?_⟩
    · simp [upd, h1]
    · simp [upd, h34]
    · simp [upd, h35]
    · simp [upd, hk, hw]
    · simpa [upds] using hb
    · simp
  · rintro ⟨A, h⟩ ⟨le, h1, h34, h35, h36, hb, hn⟩
    simp only at h1 h34 h35 h36 hb hn
    rw [cl85_0]
    refine .then xr85_6 (by simp [o85_6, builtinD, lenD, pD, argA, h35, h36]; rfl) ?_
    refine .head (by simp [opd, upd]; rfl) (fun hf => by simp at hf) (fun _ => ?_)
    exact .then xr85_11 (by simp [o85_11, builtinD, lenD, pD, argA]; rfl) (.ret ⟨_, by simp [resultsD, mapO, resultD, upd]; rfl, by simp [snap, snapDepth]⟩)
theorem call85 {m : M} (hv : Valid m) (h : H) : callI E (.fn 85 []) [.agg [.int .i64 m.ins, .int .i64 m.outs, .frz (m.rows.map rowD) .unk]] h = some (.int .i64 0, h, {}) :=
  call_pure (by decide) (snaps1 (snap_encM _ _ 4 m)) (spec85 hv)
end Go.Eng.E3
namespace Go.Eng.E3
open Go Go.Eng Go.Proofs
set_option maxRecDepth 100000
noncomputable def r111_0 : Code := navF Try.f111 [0]
noncomputable def o111_0 : List Oper := [sop (some 3) (.box 105 (.tmp 1)) none,
    sop (some 4) (.assign (.const (.int .i64 0))) none]
theorem xr111_0 : Xr 111 19 r111_0 o111_0 [] := execI_reg' (by kernel_rfl)
noncomputable def r111_1 : Code := navF Try.f111 [1, 0, 0]
noncomputable def o111_1 : List Oper := [sop (some 6) (.move (.tmp 0)) none,
    sop (some 7) (.call { callee := (.builtin .len), args := #[(.tmp 6)], argTypes := #[76] }) none,
    sop (some 8) (.move (.const (.int .i64 0))) none]
theorem xr111_1 : Xr 111 19 r111_1 o111_1 [] := execI_reg' (by kernel_rfl)
noncomputable def l111_0 : Code := navF Try.f111 [1, 0, 1, 0, 0]
noncomputable def r111_2 : Code := navF Try.f111 [1, 0, 1, 0, 0, 0]
noncomputable def o111_2 : List Oper := [sop (some 9) (.binOp .lss 3 (.tmp 8) (.tmp 7) 3) none]
theorem xr111_2 : Xr 111 19 r111_2 o111_2 [] := execI_reg' (by kernel_rfl)
noncomputable def r111_3 : Code := navF Try.f111 [1, 0, 1, 0, 0, 1, 1, 0, 0, 0]
noncomputable def o111_3 : List Oper := [sop (some 10) (.move (.tmp 8)) none,
    sop (some 5) (.assign (.tmp 10)) none]
theorem xr111_3 : Xr 111 19 r111_3 o111_3 [] := execI_reg' (by kernel_rfl)
noncomputable def r111_4 : Code := navF Try.f111 [1, 0, 1, 0, 0, 1, 1, 0, 0, 1, 0]
noncomputable def o111_4 : List Oper := [sop (some 11) (.load 105 (.tmp 3)) none,
    sop (some 12) (.move (.tmp 0)) none,
    sop (some 13) (.move (.tmp 5)) none,
    sop (some 14) (.indexAddr 76 (.tmp 12) (.tmp 13)) none,
    sop (some 15) (.load 105 (.tmp 14)) none,
    sop (some 16) (.binOp .eql 105 (.tmp 11) (.tmp 15) 105) none]
theorem xr111_4 : Xr 111 19 r111_4 o111_4 [(0, 4)] := execI_reg' (by kernel_rfl)
noncomputable def r111_5 : Code := navF Try.f111 [1, 0, 1, 0, 0, 1, 1, 0, 0, 1, 1, 0, 0]
noncomputable def o111_5 : List Oper := [sop (some 17) (.move (.tmp 5)) none,
    sop (some 4) (.assign (.tmp 17)) none]
theorem xr111_5 : Xr 111 19 r111_5 o111_5 [] := execI_reg' (by kernel_rfl)
noncomputable def r111_6 : Code := navF Try.f111 [1, 0, 1, 0, 0, 1, 1, 1]
noncomputable def o111_6 : List Oper := [sop (some 18) (.binOp .add 3 (.tmp 8) (.const (.int .i64 1)) 3) none,
    sop (some 8) (.move (.tmp 18)) none]
theorem xr111_6 : Xr 111 19 r111_6 o111_6 [] := execI_reg' (by kernel_rfl)
theorem cl111_0 : l111_0 = (.seq r111_2 (.seq (.cond (.tmp 9) .skip (.exit 0)) (.seq (.block 1 (.seq r111_3 (.seq r111_4 (.cond (.tmp 16) (.seq r111_5 .ret) .skip)))) r111_6))) := by kernel_rfl
noncomputable def r111_7 : Code := navF Try.f111 [1, 1, 0]
noncomputable def o111_7 : List Oper := [sop (some 4) (.assign (.const (.int .i64 (-1)))) none]
theorem xr111_7 : Xr 111 19 r111_7 o111_7 [] := execI_reg' (by kernel_rfl)
noncomputable def b111 : Code := (.seq r111_0 (.seq (.seq r111_1 (.block 0 (.loop l111_0))) (.seq r111_7 .ret)))
theorem body111 : Try.f111.body = some b111 := by kernel_rfl
theorem fn111 : E.fn 111 = some Try.f111 := by kernel_rfl
theorem run111 (args : List D) (h : H) (hl : args.length ≤ 19) : bodyI E 111 args h = resOf E [(.tmp 4)] (execI E 111 19 b111 ⟨argA args, h⟩) := bodyI_res fn111 body111 rfl rfl args h hl
noncomputable def r88_0 : Code := navF Try.f88 [0]
noncomputable def o88_0 : List Oper := [sop (some 3) (.box 105 (.tmp 1)) none,
    sop (some 4) (.assign (.const (.bool false))) none]
theorem xr88_0 : Xr 88 9 r88_0 o88_0 [] := execI_reg' (by kernel_rfl)
noncomputable def r88_1 : Code := navF Try.f88 [1, 0]
noncomputable def o88_1 : List Oper := [sop (some 5) (.move (.tmp 0)) none,
    sop (some 6) (.load 105 (.tmp 3)) none,
    sop (some 7) (.call { callee := (.value (.func 111)), args := #[(.tmp 5), (.tmp 6)], argTypes := #[76, 105] }) none,
    sop (some 8) (.binOp .geq 3 (.tmp 7) (.const (.int .i64 0)) 3) none,
    sop (some 4) (.assign (.tmp 8)) none]
theorem xr88_1 : Xr 88 9 r88_1 o88_1 [] := execI_reg' (by kernel_rfl)
noncomputable def b88 : Code := (.seq r88_0 (.seq r88_1 .ret))
theorem body88 : Try.f88.body = some b88 := by kernel_rfl
theorem fn88 : E.fn 88 = some Try.f88 := by kernel_rfl
theorem run88 (args : List D) (h : H) (hl : args.length ≤ 9) : bodyI E 88 args h = resOf E [(.tmp 4)] (execI E 88 9 b88 ⟨argA args, h⟩) := bodyI_res fn88 body88 rfl rfl args h hl
end Go.Eng.E3
namespace Go.Eng.E3
open Go Go.Eng Go.Proofs
set_option maxRecDepth 100000
set_option linter.unusedSimpArgs false
def idx : List (Int × Int) → Int × Int → Option Nat
  | [], _ => none
  | p :: r, q => if q.1 = p.1 ∧ q.2 = p.2 then some 0 else (idx r q).map (· + 1)
def idxI (ps : List (Int × Int)) (q : Int × Int) : Int := match idx ps q with | some j => (j : Nat) | none => -1
structure I111 (ps : List (Int × Int)) (q : Int × Int) (tk : Tok) (b : Nat) (k : Nat) (s : St) : Prop where
  le : k ≤ ps.length
  h0 : s.A 0 = .frz (ps.map pD) tk
  h7 : s.A 7 = .int .i64 ps.length
  h8 : s.A 8 = .int .i64 ((ps.length - k : Nat) : Int)
  h3 : s.A 3 = .ptr b 0 0
  hb : s.h.blk b = .live 2 [pD q]
  no : idx ps q = (idx (ps.drop (ps.length - k)) q).map (· + (ps.length - k))
set_option maxHeartbeats 1000000
theorem loop111 {ps : List (Int × Int)} {q : Int × Int} {tk : Tok} {b : Nat} (hL : ps.length < 2 ^ 62) {Q : Po} (hr : ∀ s j, idx ps q = some j → s.A 4 = .int .i64 (j : Nat) → Q.r s) (hx : ∀ s, idx ps q = none → Q.x 0 s) (k : Nat) (s : St) (hI : I111 ps q tk b k s) :
    V E 111 19 (.loop l111_0) s Q := by
  refine V.count (I111 ps q tk b) ?_ ?_ k s hI
  · rintro k ⟨A, h⟩ ⟨le, h0, h7, h8, h3, hb, no⟩
    have hlt : ps.length - (k + 1) < ps.length := by omega
    generalize hi : ps.length - (k + 1) = i at *
    have hk : ps.length - k = i + 1 := by omega
    have hd : ps.drop i = ps[i] :: ps.drop (i + 1) := List.drop_eq_getElem_cons hlt
    have hw : IntKind.i64.wrap ((i : Int) + 1) = ((i + 1 : Nat) : Int) := by rw [wrap_id] <;> omega
    rw [cl111_0]
    simp only at h0 h7 h8 h3 hb
    refine .then xr111_2 (by simp [execR, o111_2, runOps, stepOp, wantedD, evalOp, opd, upd, St.put, Eff.apply, upds, h7, h8, binD, isShift, arith, looseOk]; rfl) ?_
    refine .head (by simp [opd, upd]; rfl) (fun _ => ?_) (fun hf => by simp [hlt] at hf)
    refine .seq (.block (.then xr111_3 (by simp [execR, o111_3, runOps, stepOp, wantedD, evalOp, opd, upd, St.put, Eff.apply, upds, h7, h8, looseOk]; rfl) ?_))
    refine .then xr111_4 (by simp [execR, o111_4, runOps, stepOp, wantedD, evalOp, opd, upd, St.put, Eff.apply, upds, h0, h3, hb, h8, looseOk, loadD, pD, partD, indexAddrD, FP.free, FP.idle, apart, Eff.fp, hlt]; rfl) ?_
    refine .cond (by simp [opd, upd]; rfl) (fun ht => ?_) (fun hf => .skip ?_)
    · refine .then xr111_5 (by simp [execR, o111_5, runOps, stepOp, wantedD, evalOp, opd, upd, St.put, Eff.apply, upds, looseOk]; rfl) (.ret (hr _ i ?_ (by simp [upd])))
      rw [no, hd, idx, if_pos (by simpa using ht)]; simp
    · refine .reg xr111_6 (by simp [execR, o111_6, runOps, stepOp, wantedD, evalOp, opd, upd, St.put, Eff.apply, upds, h8, binD, isShift, arith, looseOk]; rfl) ⟨by omega, ?_, ?_, ?_, ?_, ?_, ?_⟩
      · simp [upd, h0]
      · simp [upd, h7]
      · simp [upd, hk, hw]
      · simp [upd, h3]
      · simpa [upds] using hb
      · rw [no, hd, idx, if_neg (by simpa using hf), hk]
        cases idx (ps.drop (i + 1)) q <;> simp; omega
  · rintro ⟨A, h⟩ ⟨le, h0, h7, h8, h3, hb, no⟩
    simp only at h0 h7 h8 h3 hb
    rw [cl111_0]
    refine .then xr111_2 (by simp [execR, o111_2, runOps, stepOp, wantedD, evalOp, opd, upd, St.put, Eff.apply, upds, h7, h8, binD, isShift, arith, looseOk]; rfl) ?_
    refine .head (by simp [opd, upd]; rfl) (fun hf => by simp at hf) (fun _ => hx _ ?_)
    rw [no]; simp [idx]
theorem spec111 {ps : List (Int × Int)} {q : Int × Int} {tk : Tok} (hL : ps.length < 2 ^ 62) : bodyR 111 [.frz (ps.map pD) tk, pD q] = some (.int .i64 (idxI ps q)) := by
  refine bodyR_V (run111 _ _ (by simp)) ?_
  unfold b111
  refine .then xr111_0 (by simp [execR, o111_0, runOps, stepOp, wantedD, evalOp, opd, upd, St.put, Eff.apply, upds, argA, looseOk, pD, D.okc, ofVal]; rfl) ?_
  refine .assoc (.then xr111_1 (by simp [execR, o111_1, runOps, stepOp, wantedD, evalOp, opd, upd, St.put, Eff.apply, upds, argA, looseOk, callOp, mapO, builtinD, lenD, ofVal]; rfl) ?_)
  refine .seq (.block (loop111 (q := q) (tk := tk) (b := 0) hL ?_ ?_ ps.length _ ⟨Nat.le_refl _, ?_, ?_, ?_, ?_, ?_, ?_⟩))
  · intro s j hj h4
    exact ⟨_, by simp [resultsD, mapO, resultD, h4]; rfl, by simp [snap, snapDepth, idxI, hj]⟩
  · intro s hn
    refine .then xr111_7 (by simp [execR, o111_7, runOps, stepOp, wantedD, evalOp, opd, upd, St.put, Eff.apply, upds, looseOk, ofVal]; rfl) (.ret ⟨_, by simp [resultsD, mapO, resultD, upd]; rfl, by simp [snap, snapDepth, idxI, hn]⟩)
  · simp [upd, argA]
  · simp [upd]
  · simp [upd]
  · simp [upd]
  · simp [upd, pD]
  · simp
end Go.Eng.E3
namespace Go.Eng.E3
open Go Go.Eng Go.Proofs
set_option maxRecDepth 100000
attribute [local simp] execR runOps stepOp wantedD evalOp opd upd St.put Eff.apply upds looseOk FP.free FP.idle apart Eff.fp ofVal loadD storeD partD setPart indexAddrD isShift arith unD callOp mapO D.okc pickD buildable buildD placeD convD
set_option linter.unusedSimpArgs false
set_option maxHeartbeats 2000000
theorem call74 {m : M} (hv : Valid m) {K : Nat} (hK : K < 2 ^ 62) (h : H) : callI E (.fn 74 []) [.agg [.int .i64 m.ins, .int .i64 m.outs, .frz (m.rows.map rowD) .unk], .int .i64 K] h = some (.frz ((markN m K).map boolRow) .unk, h, {}) :=
  call_pure (by decide) (snaps2 (snap_encM _ _ 4 m) rfl) (spec74 hv hK)
def partM' (m : M) (K : Nat) : List Int := (partN (markN m K) m.rows.length).1
theorem call122 {m : M} (hv : Valid m) {K : Nat} (h : H) : callI E (.fn 122 []) [.frz ((markN m K).map boolRow) .unk] h = some (.frz ((partM' m K).map (D.int .i64)) .unk, h, {}) := by
  have hsq := sq_mark m K
  have hl := hsq.l
  have hb := spec122 (mk := markN m K) (by rw [hl]; exact hsq) (by rw [hl]; exact hv.r2)
  rw [hl] at hb
  have ht : tkA' (markN m K) = .unk := by
    have := hv.r1
    cases hm : markN m K with
    | nil => rw [hm] at hl; simp at hl; omega
    | cons _ _ => rfl
  rw [ht] at hb
  exact call_pure (by decide) (snaps1 (snap_mark _ _ 6 (markN m K))) hb
theorem spec101 {m : M} (hv : Valid m) {K : Nat} (hK : K < 2 ^ 62) : bodyR 101 [encM m, .int .i64 K] = some (.frz ((partM' m K).map (D.int .i64)) .unk) := by
  refine bodyR_V (run101 _ _ (by simp)) ?_
  unfold b101
  refine .then xr101_0 (by simp [o101_0, builtinD, lenD, pD, argA, encM]; rfl) ?_
  refine .then xr101_1 (by simp [o101_1, builtinD, lenD, pD, argA, call74 hv hK, call122 hv]; rfl) (.ret ⟨_, by simp [resultsD, mapO, resultD, upd]; rfl, ?_⟩)
  rw [show snapDepth = 7 + 2 from rfl, snap_ints]
  rfl
theorem spec77 {m : M} (hv : Valid m) : bodyR 77 [encM m] = some (.frz ((partM' m m.rows.length).map (D.int .i64)) .unk) := by
  have hK : m.rows.length < 2 ^ 62 := by have := hv.r2; omega
  have call101 : ∀ h, callI E (.fn 101 []) [.agg [.int .i64 m.ins, .int .i64 m.outs, .frz (m.rows.map rowD) .unk], .int .i64 m.rows.length] h = some (.frz ((partM' m m.rows.length).map (D.int .i64)) .unk, h, {}) := fun h =>
    call_pure (by decide) (snaps2 (snap_encM _ _ 4 m) rfl) (spec101 hv hK)
  refine bodyR_V (run77 _ _ (by simp)) ?_
  unfold b77
  refine .then xr77_0 (by simp [o77_0, builtinD, lenD, pD, argA, encM]; rfl) ?_
  refine .then xr77_1 (by simp [o77_1, builtinD, lenD, pD, argA, call101]; rfl) (.ret ⟨_, by simp [resultsD, mapO, resultD, upd]; rfl, ?_⟩)
  rw [show snapDepth = 7 + 2 from rfl, snap_ints]
  rfl
theorem call77 {m : M} (hv : Valid m) (h : H) : callI E (.fn 77 []) [.agg [.int .i64 m.ins, .int .i64 m.outs, .frz (m.rows.map rowD) .unk]] h = some (.frz ((partM' m m.rows.length).map (D.int .i64)) .unk, h, {}) :=
  call_pure (by decide) (snaps1 (snap_encM _ _ 4 m)) (spec77 hv)
theorem call111 {ps : List (Int × Int)} {q : Int × Int} (hL : ps.length < 2 ^ 62) (h : H) : callI E (.fn 111 []) [.frz (ps.map pD) .unk, .agg [.int .i64 q.1, .int .i64 q.2]] h = some (.int .i64 (idxI ps q), h, {}) :=
  call_pure (by decide) (snaps2 (snap_rowD _ _ 6 ps) (snap_pD _ _ 7 q)) (spec111 hL)
theorem idx_mem (q : Int × Int) : ∀ ps : List (Int × Int), (idx ps q).isSome = decide (q ∈ ps)
  | [] => by simp [idx]
  | p :: r => by
    rw [idx]
    by_cases h : q.1 = p.1 ∧ q.2 = p.2
    · have : q = p := Prod.ext h.1 h.2
      simp [h, this]
    · have : q ≠ p := fun e => h (by rw [e]; exact ⟨rfl, rfl⟩)
      rw [if_neg h, Option.isSome_map, idx_mem q r]
      simp [this]
theorem spec88 {ps : List (Int × Int)} {q : Int × Int} (hL : ps.length < 2 ^ 62) : bodyR 88 [.frz (ps.map pD) .unk, pD q] = some (.bool (decide (q ∈ ps))) := by
  have hd : decide (0 ≤ idxI ps q) = decide (q ∈ ps) := by
    rw [← idx_mem]
    unfold idxI
    cases idx ps q <;> simp
  refine bodyR_V (run88 _ _ (by simp)) ?_
  unfold b88
  refine .then xr88_0 (by simp [o88_0, builtinD, lenD, pD, argA]; rfl) ?_
  refine .then xr88_1 (by simp [o88_1, builtinD, lenD, pD, argA, call111 hL, hd]; rfl) ?_
  refine .ret ⟨_, by simp [resultsD, mapO, resultD, upd]; rfl, by simp [snap, snapDepth]⟩
def isInt (z : Int) : Option (D × FH) → Bool
  | some (.int .i64 x, _) => decide (x = z)
  | _ => false
def isBool (z : Bool) : Option (D × FH) → Bool
  | some (.bool x, _) => x == z
  | _ => false
theorem run_int {X : Ext'} (hX : ∀ g m, X g = some m → ModelOk E g m) {n : Nat} {g : FuncId} {args : List D} {z : Int} (e : isInt z (bodyFF E (callF E X n) n g args FH.empty) = true) : bodyR g args = some (.int .i64 z) := by
  cases hr : bodyFF E (callF E X n) n g args FH.empty with
  | none => rw [hr] at e; cases e
  | some p =>
    obtain ⟨r, h⟩ := p
    have h2 := bodyFF_up (callF_up hX n) hr
    rw [hr] at e
    unfold isInt at e
    split at e
    · rename_i x _ heq
      cases heq
      have : x = z := of_decide_eq_true e
      subst this
      rw [FH.up_empty] at h2
      unfold bodyR
      rw [h2]
      rfl
    · cases e
theorem run_bool {X : Ext'} (hX : ∀ g m, X g = some m → ModelOk E g m) {n : Nat} {g : FuncId} {args : List D} {z : Bool} (e : isBool z (bodyFF E (callF E X n) n g args FH.empty) = true) : bodyR g args = some (.bool z) := by
  cases hr : bodyFF E (callF E X n) n g args FH.empty with
  | none => rw [hr] at e; cases e
  | some p =>
    obtain ⟨r, h⟩ := p
    have h2 := bodyFF_up (callF_up hX n) hr
    rw [hr] at e
    unfold isBool at e
    split at e
    · rename_i x _ heq
      cases heq
      have : x = z := eq_of_beq e
      subst this
      rw [FH.up_empty] at h2
      unfold bodyR
      rw [h2]
      rfl
    · cases e
theorem spec84 : bodyR 84 [.frz [.int .i64 0, .int .i64 0] .unk] = some (.int .i64 0) :=
  run_int (X := fun _ => none) (n := 20) (fun g m h => by cases h) (by kernel_rfl)
theorem call84 (h : H) (tk : Tok) : callI E (.fn 84 []) [.frz [.int .i64 0, .int .i64 0] tk] h = some (.int .i64 0, h, {}) :=
  call_pure (by decide) (by cases tk <;> rfl) spec84
theorem mu59 : E.pol.mu 59 160 = false := by decide
theorem spec59 {a b : M} (ha : Valid a) (hb : Valid b) (hi : a.ins = b.ins) : bodyR 59 [encM a, encM b] = some (.int .i64 0) := by
  refine bodyR_V (run59 _ _ (by simp)) ?_
  unfold b59
  refine .then xr59_0 (by simp [o59_0, builtinD, lenD, pD, argA, encM]; rfl) ?_
  refine .then xr59_1 (by simp [o59_1, builtinD, lenD, pD, argA, call85 ha, call85 hb, call84, mu59, show List.range 2 = [0, 1] from rfl, mapK, snapDepth, snap_int, kills]; rfl) ?_
  refine .assoc (.then xr59_2 (by simp [o59_2, builtinD, lenD, pD, argA, hi]; rfl) ?_)
  refine .seq (.cond (by simp [opd, upd]; rfl) (fun hf => by cases hf) (fun _ => .skip ?_))
  refine .then xr59_4 (by simp [o59_4, builtinD, lenD, pD, argA]; rfl) (.ret ⟨_, by simp [resultsD, mapO, resultD, upd]; rfl, by simp [snap, snapDepth]⟩)
end Go.Eng.E3
namespace Go.Eng.E3
open Go Go.Eng Go.Proofs
set_option maxRecDepth 100000
noncomputable def r54_0 : Code := navF Try.f54 [0]
noncomputable def o54_0 : List Oper := [sop (some 3) (.box 34 (.tmp 0)) none,
    sop (some 6) (.alloc 55) none]
theorem xr54_0 : Xr 54 18 r54_0 o54_0 [] := execI_reg' (by kernel_rfl)
noncomputable def r54_1 : Code := navF Try.f54 [1, 0, 0]
noncomputable def o54_1 : List Oper := [sop (some 7) (.move (.tmp 1)) none,
    sop (some 8) (.binOp .lss 3 (.tmp 7) (.const (.int .i64 0)) 3) none]
theorem xr54_1 : Xr 54 18 r54_1 o54_1 [] := execI_reg' (by kernel_rfl)
noncomputable def r54_2 : Code := navF Try.f54 [1, 0, 1, 0, 0]
noncomputable def o54_2 : List Oper := [sop (some 9) (.build 55 #[(0, (.const (.int .i64 (-1)))), (1, (.const (.int .i64 (-1))))]) none,
    sop none (.store 55 (.tmp 6) (.tmp 9)) none]
theorem xr54_2 : Xr 54 18 r54_2 o54_2 [] := execI_reg' (by kernel_rfl)
noncomputable def r54_3 : Code := navF Try.f54 [1, 1, 0]
noncomputable def o54_3 : List Oper := [sop (some 10) (.fieldAddr 34 (.tmp 3) 2) none,
    sop (some 11) (.load 32 (.tmp 10)) none,
    sop (some 12) (.move (.tmp 1)) none,
    sop (some 13) (.indexAddr 32 (.tmp 11) (.tmp 12)) none,
    sop (some 14) (.load 72 (.tmp 13)) none,
    sop (some 15) (.move (.tmp 2)) none,
    sop (some 16) (.indexAddr 72 (.tmp 14) (.tmp 15)) none,
    sop (some 17) (.load 55 (.tmp 16)) none,
    sop none (.store 55 (.tmp 6) (.tmp 17)) none]
theorem xr54_3 : Xr 54 18 r54_3 o54_3 [] := execI_reg' (by kernel_rfl)
noncomputable def b54 : Code := (.seq r54_0 (.seq (.seq r54_1 (.cond (.tmp 8) (.seq r54_2 .ret) .skip)) (.seq r54_3 .ret)))
theorem body54 : Try.f54.body = some b54 := by kernel_rfl
theorem fn54 : E.fn 54 = some Try.f54 := by kernel_rfl
theorem run54 (args : List D) (h : H) (hl : args.length ≤ 18) : bodyI E 54 args h = resOf E [(.cell 6 55)] (execI E 54 18 b54 ⟨argA args, h⟩) := bodyI_res fn54 body54 rfl rfl args h hl
noncomputable def r22_0 : Code := navF Try.f22 [0]
noncomputable def o22_0 : List Oper := [sop (some 3) (.box 34 (.tmp 0)) none,
    sop (some 6) (.assign (.const (.slice none 0 0))) none]
theorem xr22_0 : Xr 22 31 r22_0 o22_0 [] := execI_reg' (by kernel_rfl)
noncomputable def r22_1 : Code := navF Try.f22 [1, 0]
noncomputable def o22_1 : List Oper := [sop (some 7) (.assign (.const (.slice none 0 0))) none]
theorem xr22_1 : Xr 22 31 r22_1 o22_1 [] := execI_reg' (by kernel_rfl)
noncomputable def r22_2 : Code := navF Try.f22 [1, 1, 0, 0]
noncomputable def o22_2 : List Oper := [sop (some 8) (.assign (.const (.int .i64 0))) none]
theorem xr22_2 : Xr 22 31 r22_2 o22_2 [] := execI_reg' (by kernel_rfl)
noncomputable def l22_0 : Code := navF Try.f22 [1, 1, 0, 1, 0, 0]
noncomputable def r22_3 : Code := navF Try.f22 [1, 1, 0, 1, 0, 0, 0, 0]
noncomputable def o22_3 : List Oper := [sop (some 10) (.move (.tmp 8)) none,
    sop (some 11) (.move (.tmp 2)) none,
    sop (some 12) (.call { callee := (.builtin .len), args := #[(.tmp 11)], argTypes := #[62] }) none,
    sop (some 13) (.binOp .lss 3 (.tmp 10) (.tmp 12) 3) none]
theorem xr22_3 : Xr 22 31 r22_3 o22_3 [] := execI_reg' (by kernel_rfl)
noncomputable def r22_5 : Code := navF Try.f22 [1, 1, 0, 1, 0, 0, 1, 0, 0, 0]
noncomputable def o22_5 : List Oper := [sop (some 16) (.load 34 (.tmp 3)) none,
    sop (some 17) (.move (.tmp 1)) none,
    sop (some 18) (.move (.tmp 2)) none,
    sop (some 19) (.move (.tmp 8)) none,
    sop (some 20) (.indexAddr 62 (.tmp 18) (.tmp 19)) none,
    sop (some 21) (.load 3 (.tmp 20)) none,
    sop (some 22) (.call { callee := (.value (.func 54)), args := #[(.tmp 16), (.tmp 17), (.tmp 21)], argTypes := #[34, 3, 3] }) none,
    sop (some 9) (.alloc 55) none,
    sop none (.store 55 (.tmp 9) (.tmp 22)) none]
theorem xr22_5 : Xr 22 31 r22_5 o22_5 [(0, 5), (0, 7), (5, 7), (6, 7)] := execI_reg' (by kernel_rfl)
noncomputable def r22_6 : Code := navF Try.f22 [1, 1, 0, 1, 0, 0, 1, 0, 0, 1, 0]
noncomputable def o22_6 : List Oper := [sop (some 23) (.move (.tmp 7)) none,
    sop (some 24) (.fieldAddr 55 (.tmp 9) 1) none,
    sop (some 25) (.load 3 (.tmp 24)) none,
    sop (some 26) (.buildSlice 62 1 #[(0, (.tmp 25))]) none,
    sop (some 27) (.call { callee := (.builtin .append), args := #[(.tmp 23), (.tmp 26)], argTypes := #[62, 62] }) none,
    sop (some 7) (.assign (.tmp 27)) none]
theorem xr22_6 : Xr 22 31 r22_6 o22_6 [] := execI_reg' (by kernel_rfl)
noncomputable def r22_7 : Code := navF Try.f22 [1, 1, 0, 1, 0, 0, 1, 0, 0, 1, 1]
noncomputable def o22_7 : List Oper := [sop (some 28) (.fieldAddr 55 (.tmp 9) 0) none,
    sop (some 29) (.load 3 (.tmp 28)) none,
    sop (some 1) (.assign (.tmp 29)) none]
theorem xr22_7 : Xr 22 31 r22_7 o22_7 [] := execI_reg' (by kernel_rfl)
noncomputable def r22_4 : Code := navF Try.f22 [1, 1, 0, 1, 0, 0, 1, 1]
noncomputable def o22_4 : List Oper := [sop (some 14) (.move (.tmp 8)) none,
    sop (some 15) (.binOp .add 3 (.tmp 14) (.const (.int .i64 1)) 3) none,
    sop (some 8) (.assign (.tmp 15)) none]
theorem xr22_4 : Xr 22 31 r22_4 o22_4 [] := execI_reg' (by kernel_rfl)
theorem cl22_0 : l22_0 = (.seq (.seq r22_3 (.cond (.tmp 13) .skip (.exit 0))) (.seq (.block 1 (.seq r22_5 (.seq r22_6 r22_7))) r22_4)) := by kernel_rfl
noncomputable def r22_8 : Code := navF Try.f22 [1, 1, 1, 0]
noncomputable def o22_8 : List Oper := [sop (some 30) (.move (.tmp 7)) none,
    sop (some 6) (.assign (.tmp 30)) none]
theorem xr22_8 : Xr 22 31 r22_8 o22_8 [] := execI_reg' (by kernel_rfl)
noncomputable def b22 : Code := (.seq r22_0 (.seq r22_1 (.seq (.seq r22_2 (.block 0 (.loop l22_0))) (.seq r22_8 .ret))))
theorem body22 : Try.f22.body = some b22 := by kernel_rfl
theorem fn22 : E.fn 22 = some Try.f22 := by kernel_rfl
theorem run22 (args : List D) (h : H) (hl : args.length ≤ 31) : bodyI E 22 args h = resOf E [(.tmp 6)] (execI E 22 31 b22 ⟨argA args, h⟩) := bodyI_res fn22 body22 rfl rfl args h hl
noncomputable def r53_0 : Code := navF Try.f53 [0]
noncomputable def o53_0 : List Oper := [sop (some 4) (.assign (.const (.int .i64 0))) none]
theorem xr53_0 : Xr 53 40 r53_0 o53_0 [] := execI_reg' (by kernel_rfl)
noncomputable def r53_1 : Code := navF Try.f53 [1, 0, 0]
noncomputable def o53_1 : List Oper := [sop (some 6) (.move (.tmp 0)) none,
    sop (some 7) (.call { callee := (.builtin .len), args := #[(.tmp 6)], argTypes := #[62] }) none,
    sop (some 8) (.move (.tmp 1)) none,
    sop (some 9) (.call { callee := (.builtin .len), args := #[(.tmp 8)], argTypes := #[62] }) none,
    sop (some 10) (.binOp .lss 3 (.tmp 7) (.tmp 9) 3) none]
theorem xr53_1 : Xr 53 40 r53_1 o53_1 [] := execI_reg' (by kernel_rfl)
noncomputable def r53_2 : Code := navF Try.f53 [1, 0, 1, 0, 0]
noncomputable def o53_2 : List Oper := [sop (some 4) (.assign (.const (.int .i64 (-1)))) none]
theorem xr53_2 : Xr 53 40 r53_2 o53_2 [] := execI_reg' (by kernel_rfl)
noncomputable def r53_3 : Code := navF Try.f53 [1, 1, 0, 0]
noncomputable def o53_3 : List Oper := [sop (some 11) (.move (.tmp 0)) none,
    sop (some 12) (.call { callee := (.builtin .len), args := #[(.tmp 11)], argTypes := #[62] }) none,
    sop (some 13) (.move (.tmp 1)) none,
    sop (some 14) (.call { callee := (.builtin .len), args := #[(.tmp 13)], argTypes := #[62] }) none,
    sop (some 15) (.binOp .gtr 3 (.tmp 12) (.tmp 14) 3) none]
theorem xr53_3 : Xr 53 40 r53_3 o53_3 [] := execI_reg' (by kernel_rfl)
noncomputable def r53_4 : Code := navF Try.f53 [1, 1, 0, 1, 0, 0]
noncomputable def o53_4 : List Oper := [sop (some 4) (.assign (.const (.int .i64 1))) none]
theorem xr53_4 : Xr 53 40 r53_4 o53_4 [] := execI_reg' (by kernel_rfl)
noncomputable def r53_5 : Code := navF Try.f53 [1, 1, 1, 0, 0]
noncomputable def o53_5 : List Oper := [sop (some 5) (.assign (.const (.int .i64 0))) none]
theorem xr53_5 : Xr 53 40 r53_5 o53_5 [] := execI_reg' (by kernel_rfl)
noncomputable def l53_0 : Code := navF Try.f53 [1, 1, 1, 0, 1, 0, 0]
noncomputable def r53_6 : Code := navF Try.f53 [1, 1, 1, 0, 1, 0, 0, 0, 0]
noncomputable def o53_6 : List Oper := [sop (some 16) (.move (.tmp 5)) none,
    sop (some 17) (.move (.tmp 0)) none,
    sop (some 18) (.call { callee := (.builtin .len), args := #[(.tmp 17)], argTypes := #[62] }) none,
    sop (some 19) (.binOp .lss 3 (.tmp 16) (.tmp 18) 3) none]
theorem xr53_6 : Xr 53 40 r53_6 o53_6 [] := execI_reg' (by kernel_rfl)
noncomputable def r53_8 : Code := navF Try.f53 [1, 1, 1, 0, 1, 0, 0, 1, 0, 0, 0, 0]
noncomputable def o53_8 : List Oper := [sop (some 22) (.move (.tmp 0)) none,
    sop (some 23) (.move (.tmp 5)) none,
    sop (some 24) (.indexAddr 62 (.tmp 22) (.tmp 23)) none,
    sop (some 25) (.load 3 (.tmp 24)) none,
    sop (some 26) (.move (.tmp 1)) none,
    sop (some 27) (.move (.tmp 5)) none,
    sop (some 28) (.indexAddr 62 (.tmp 26) (.tmp 27)) none,
    sop (some 29) (.load 3 (.tmp 28)) none,
    sop (some 30) (.binOp .lss 3 (.tmp 25) (.tmp 29) 3) none]
theorem xr53_8 : Xr 53 40 r53_8 o53_8 [(3, 7)] := execI_reg' (by kernel_rfl)
noncomputable def r53_9 : Code := navF Try.f53 [1, 1, 1, 0, 1, 0, 0, 1, 0, 0, 0, 1, 0, 0]
noncomputable def o53_9 : List Oper := [sop (some 4) (.assign (.const (.int .i64 (-1)))) none]
theorem xr53_9 : Xr 53 40 r53_9 o53_9 [] := execI_reg' (by kernel_rfl)
noncomputable def r53_10 : Code := navF Try.f53 [1, 1, 1, 0, 1, 0, 0, 1, 0, 0, 1, 0]
noncomputable def o53_10 : List Oper := [sop (some 31) (.move (.tmp 0)) none,
    sop (some 32) (.move (.tmp 5)) none,
    sop (some 33) (.indexAddr 62 (.tmp 31) (.tmp 32)) none,
    sop (some 34) (.load 3 (.tmp 33)) none,
    sop (some 35) (.move (.tmp 1)) none,
    sop (some 36) (.move (.tmp 5)) none,
    sop (some 37) (.indexAddr 62 (.tmp 35) (.tmp 36)) none,
    sop (some 38) (.load 3 (.tmp 37)) none,
    sop (some 39) (.binOp .gtr 3 (.tmp 34) (.tmp 38) 3) none]
theorem xr53_10 : Xr 53 40 r53_10 o53_10 [(3, 7)] := execI_reg' (by kernel_rfl)
noncomputable def r53_11 : Code := navF Try.f53 [1, 1, 1, 0, 1, 0, 0, 1, 0, 0, 1, 1, 0, 0]
noncomputable def o53_11 : List Oper := [sop (some 4) (.assign (.const (.int .i64 1))) none]
theorem xr53_11 : Xr 53 40 r53_11 o53_11 [] := execI_reg' (by kernel_rfl)
noncomputable def r53_7 : Code := navF Try.f53 [1, 1, 1, 0, 1, 0, 0, 1, 1]
noncomputable def o53_7 : List Oper := [sop (some 20) (.move (.tmp 5)) none,
    sop (some 21) (.binOp .add 3 (.tmp 20) (.const (.int .i64 1)) 3) none,
    sop (some 5) (.assign (.tmp 21)) none]
theorem xr53_7 : Xr 53 40 r53_7 o53_7 [] := execI_reg' (by kernel_rfl)
theorem cl53_0 : l53_0 = (.seq (.seq r53_6 (.cond (.tmp 19) .skip (.exit 0))) (.seq (.block 1 (.seq (.seq r53_8 (.cond (.tmp 30) (.seq r53_9 .ret) .skip)) (.seq r53_10 (.cond (.tmp 39) (.seq r53_11 .ret) .skip)))) r53_7)) := by kernel_rfl
noncomputable def r53_12 : Code := navF Try.f53 [1, 1, 1, 1, 0]
noncomputable def o53_12 : List Oper := [sop (some 4) (.assign (.const (.int .i64 0))) none]
theorem xr53_12 : Xr 53 40 r53_12 o53_12 [] := execI_reg' (by kernel_rfl)
noncomputable def b53 : Code := (.seq r53_0 (.seq (.seq r53_1 (.cond (.tmp 10) (.seq r53_2 .ret) .skip)) (.seq (.seq r53_3 (.cond (.tmp 15) (.seq r53_4 .ret) .skip)) (.seq (.seq r53_5 (.block 0 (.loop l53_0))) (.seq r53_12 .ret)))))
theorem body53 : Try.f53.body = some b53 := by kernel_rfl
theorem fn53 : E.fn 53 = some Try.f53 := by kernel_rfl
theorem run53 (args : List D) (h : H) (hl : args.length ≤ 40) : bodyI E 53 args h = resOf E [(.tmp 4)] (execI E 53 40 b53 ⟨argA args, h⟩) := bodyI_res fn53 body53 rfl rfl args h hl
noncomputable def r21_0 : Code := navF Try.f21 [0]
noncomputable def o21_0 : List Oper := [sop (some 4) (.assign (.const (.bool false))) none]
theorem xr21_0 : Xr 21 9 r21_0 o21_0 [] := execI_reg' (by kernel_rfl)
noncomputable def r21_1 : Code := navF Try.f21 [1, 0]
noncomputable def o21_1 : List Oper := [sop (some 5) (.move (.tmp 0)) none,
    sop (some 6) (.move (.tmp 1)) none,
    sop (some 7) (.call { callee := (.value (.func 53)), args := #[(.tmp 5), (.tmp 6)], argTypes := #[62, 62] }) none,
    sop (some 8) (.binOp .eql 3 (.tmp 7) (.const (.int .i64 0)) 3) none,
    sop (some 4) (.assign (.tmp 8)) none]
theorem xr21_1 : Xr 21 9 r21_1 o21_1 [] := execI_reg' (by kernel_rfl)
noncomputable def b21 : Code := (.seq r21_0 (.seq r21_1 .ret))
theorem body21 : Try.f21.body = some b21 := by kernel_rfl
theorem fn21 : E.fn 21 = some Try.f21 := by kernel_rfl
theorem run21 (args : List D) (h : H) (hl : args.length ≤ 9) : bodyI E 21 args h = resOf E [(.tmp 4)] (execI E 21 9 b21 ⟨argA args, h⟩) := bodyI_res fn21 body21 rfl rfl args h hl
end Go.Eng.E3
namespace Go.Eng.E3
open Go Go.Eng Go.Proofs
set_option maxRecDepth 100000
attribute [local simp] execR runOps stepOp wantedD evalOp opd upd St.put Eff.apply upds looseOk FP.free FP.idle apart Eff.fp ofVal loadD storeD partD setPart indexAddrD isShift arith unD callOp mapO D.okc pickD buildable buildD placeD convD
set_option linter.unusedSimpArgs false
set_option maxHeartbeats 2000000
def nextM (m : M) (s : Int) (i : Nat) : Int × Int := if s < 0 then (-1, -1) else (m.rows.getD s.toNat []).getD i (0, 0)
def StOk (m : M) (s : Int) : Prop := s = -1 ∨ (0 ≤ s ∧ s < m.rows.length)
theorem nextM_ok {m : M} (hv : Valid m) {s : Int} (hs : StOk m s) {i : Nat} (hi : i < m.ins) : EdgeOk m (nextM m s i) := by
  rcases hs with rfl | ⟨h1, h2⟩
  · exact .inl rfl
  · have hl : s.toNat < m.rows.length := by omega
    have hli : i < m.rows[s.toNat].length := by rw [hv.len _ (List.getElem_mem hl)]; exact hi
    have : nextM m s i = m.rows[s.toNat][i] := by simp [nextM, show ¬ s < 0 by omega, hl, hli]
    rw [this]
    exact hv.ok _ (List.getElem_mem hl) _ (List.getElem_mem hli)
theorem nextM_st {m : M} (hv : Valid m) {s : Int} (hs : StOk m s) {i : Nat} (hi : i < m.ins) : StOk m (nextM m s i).1 := by
  rcases nextM_ok hv hs hi with h | h
  · rw [h]; exact .inl rfl
  · exact .inr ⟨h.1, h.2.1⟩
theorem spec54 {m : M} (hv : Valid m) {s : Int} (hs : StOk m s) {i : Nat} (hi : i < m.ins) : bodyR 54 [encM m, .int .i64 s, .int .i64 i] = some (pD (nextM m s i)) := by
  refine bodyR_V (run54 _ _ (by simp)) ?_
  unfold b54
  refine .then xr54_0 (by simp [o54_0, builtinD, lenD, pD, argA, encM]; rfl) ?_
  refine .assoc (.then xr54_1 (by simp [o54_1, builtinD, lenD, pD, argA]; rfl) ?_)
  refine .seq (.cond (by simp [opd, upd]; rfl) (fun ht => ?_) (fun hf => .skip ?_))
  · have hn : s < 0 := by simpa using ht
    refine .then xr54_2 (by simp [o54_2, builtinD, lenD, pD, argA, buildable, buildD, placeD]; rfl) ?_
    refine .ret ⟨_, by simp [resultsD, mapO, resultD, upd, upds, loadD, partD]; rfl, by simp [snap, snapDepth, mapK, nextM, hn, pD]⟩
  · have hn : ¬ s < 0 := by simpa using hf
    have h2 : 0 ≤ s ∧ s < m.rows.length := by rcases hs with rfl | hs; · simp at hn
                                              exact hs
    have h3 : s.toNat < m.rows.length := by omega
    have hli : i < m.rows[s.toNat].length := by rw [hv.len _ (List.getElem_mem h3)]; exact hi
    have h21 := h2.1
    have h22 := h2.2
    refine .then xr54_3 (by simp [o54_3, builtinD, lenD, pD, argA, h21, h22, h3, hli, rowD]; rfl) ?_
    refine .ret ⟨_, by simp [resultsD, mapO, resultD, upd, upds, loadD, partD]; rfl, by simp [snap, snapDepth, mapK, nextM, hn, pD, h3, hli]⟩
theorem call54 {m : M} (hv : Valid m) {s : Int} (hs : StOk m s) {i : Nat} (hi : i < m.ins) (h : H) : callI E (.fn 54 []) [.agg [.int .i64 m.ins, .int .i64 m.outs, .frz (m.rows.map rowD) .unk], .int .i64 s, .int .i64 i] h = some (.agg [.int .i64 (nextM m s i).1, .int .i64 (nextM m s i).2], h, {}) :=
  call_pure (by decide) (snaps3 (snap_encM _ _ 4 m) rfl rfl) (spec54 hv hs hi)
def runM (m : M) : Int → List Nat → List Int
  | _, [] => []
  | s, i :: w => (nextM m s i).2 :: runM m (nextM m s i).1 w
def aftM (m : M) : Int → List Nat → Int
  | s, [] => s
  | s, i :: w => aftM m (nextM m s i).1 w
theorem runM_append (m : M) : ∀ (u w : List Nat) (s : Int), runM m s (u ++ w) = runM m s u ++ runM m (aftM m s u) w
  | [], _, _ => rfl
  | i :: u, w, s => by simp only [List.cons_append, runM, aftM, runM_append m u w]
theorem aftM_append (m : M) : ∀ (u w : List Nat) (s : Int), aftM m s (u ++ w) = aftM m (aftM m s u) w
  | [], _, _ => rfl
  | i :: u, w, s => by simp only [List.cons_append, aftM, aftM_append m u w]
theorem runM_len (m : M) : ∀ (u : List Nat) (s : Int), (runM m s u).length = u.length
  | [], _ => rfl
  | i :: u, s => by simp only [runM, List.length_cons, runM_len m u]
def tkA {α : Type} (l : List α) : Tok := if l.isEmpty then .nil else .unk
structure I22 (m : M) (s0 : Int) (w : List Nat) (k : Nat) (st : St) : Prop where
  le : k ≤ w.length
  h1 : st.A 1 = .int .i64 (aftM m s0 (w.take (w.length - k)))
  h2 : st.A 2 = .frz (w.map natD) .unk
  h3 : st.A 3 = .ptr 0 0 0
  h8 : st.A 8 = .int .i64 ((w.length - k : Nat) : Int)
  hb : st.h.blk 0 = .live 3 [encM m]
  hn : 1 ≤ st.h.next
  h7 : ∃ tk, st.A 7 = .frz ((runM m s0 (w.take (w.length - k))).map (D.int .i64)) tk ∧ TokB st.h.blk tk 1 st.h.next ∧ (tk = .nil ↔ w.length - k = 0)
  so : StOk m (aftM m s0 (w.take (w.length - k)))
theorem mu22 : E.pol.mu 22 62 = false := by decide
theorem spec22 {m : M} (hv : Valid m) {s0 : Int} (hs : StOk m s0) {w : List Nat} (hw : ∀ i ∈ w, i < m.ins) (hL : w.length < 2 ^ 40) : bodyR 22 [encM m, .int .i64 s0, .frz (w.map natD) .unk] = some (.frz ((runM m s0 w).map (D.int .i64)) (tkA w)) := by
  refine bodyR_V (run22 _ _ (by simp)) ?_
  unfold b22
  refine .then xr22_0 (by simp [o22_0, builtinD, lenD, pD, argA, encM]; rfl) ?_
  refine .then xr22_1 (by simp [o22_1, builtinD, lenD, pD, argA]; rfl) ?_
  refine .assoc (.then xr22_2 (by simp [o22_2, builtinD, lenD, pD, argA]; rfl) ?_)
  refine .seq (.block (V.count (I22 m s0 w) ?_ ?_ w.length _ ⟨Nat.le_refl _, by simp [upd, argA, aftM], by simp [upd, argA], by simp [upd], by simp [upd], by simp [upd, encM], by simp, ⟨.nil, by simp [upd, runM], .inl rfl, by simp⟩, by simpa [aftM] using hs⟩))
  · rintro k ⟨A, h⟩ ⟨le, h1, h2, h3, h8, hb, hn, ⟨tk, h7, ht, htn⟩, so⟩
    have hlt : w.length - (k + 1) < w.length := by omega
    generalize hi : w.length - (k + 1) = i at *
    have hk' : w.length - k = i + 1 := by omega
    have hwr : IntKind.i64.wrap ((i : Int) + 1) = ((i + 1 : Nat) : Int) := by rw [wrap_id] <;> omega
    have hwi : w[i] < m.ins := hw _ (List.getElem_mem hlt)
    have htake : w.take (i + 1) = w.take i ++ [w[i]] := (List.take_succ_eq_append_getElem hlt)
    generalize hsi : aftM m s0 (w.take i) = si at *
    have hrl : (runM m s0 (w.take i)).length < 2 ^ 40 := by rw [runM_len]; simp; omega
    simp only at h1 h2 h3 h7 h8 hb hn ht
    have hb0 : ∀ j, (0 = h.next + j) = False := fun j => by simp; omega
    have hb1 : (0 = h.next) = False := by simp; omega
    rw [cl22_0]
    refine .assoc (.then xr22_3 (by simp [o22_3, builtinD, lenD, pD, argA, h8, h2]; rfl) ?_)
    refine .head (by simp [opd, upd]; rfl) (fun _ => ?_) (fun hf => by simp [hlt] at hf)
    refine .seq (.block (.then xr22_5 (by simp [o22_5, builtinD, lenD, pD, argA, h1, h2, h3, h8, hb, encM, hlt, natD, call54 hv so hwi, hb0, hb1]; rfl) ?_))
    have e2 : upd (upd h.blk (h.next + 4 + 7) (.live 2 [.agg [.int .i64 0, .int .i64 0]])) (h.next + 4 + 7) (.live 2 [.agg [.int .i64 (nextM m si w[i]).1, .int .i64 (nextM m si w[i]).2]]) (h.next + 4 + 7) = .live 2 [.agg [.int .i64 (nextM m si w[i]).1, .int .i64 (nextM m si w[i]).2]] := by simp
    have e3 : ∀ b, b < h.next → upd (upd h.blk (h.next + 4 + 7) (.live 2 [.agg [.int .i64 0, .int .i64 0]])) (h.next + 4 + 7) (.live 2 [.agg [.int .i64 (nextM m si w[i]).1, .int .i64 (nextM m si w[i]).2]]) b = h.blk b := fun b hb => by
      simp [upd, show b ≠ h.next + 4 + 7 by omega]
    generalize upd (upd h.blk (h.next + 4 + 7) (.live 2 [.agg [.int .i64 0, .int .i64 0]])) (h.next + 4 + 7) (.live 2 [.agg [.int .i64 (nextM m si w[i]).1, .int .i64 (nextM m si w[i]).2]]) = blk1 at *
    have ht1 : TokB blk1 tk 1 (h.next + 4 + 9) := ht.mono (by omega) (fun b hb1 hb2 => by rw [e3 b hb1]; exact hb2)
    have ha : ∀ s, builtinD E.T (E.pol.mu 22) s blk1 .append [62, 62] [.frz ((runM m s0 (w.take i)).map (D.int .i64)) tk, .frz [.int .i64 (nextM m si w[i]).2] .exact] = some { v := .frz ((runM m s0 (w.take i) ++ [(nextM m si w[i]).2]).map (D.int .i64)) (.own s 1), wr := tokWr tk s, rd := tokRd tk } := fun s => app62 mu22 ht1 hrl
    have ha0 := fun s => tokWr_keep (s := s) (b := h.next + 4 + 7) ht1 (by rw [e2]; simp)
    refine .then xr22_6 (by simp [o22_6, pD, argA, h7, e2, ha, mu22, mapK, snapDepth, snap_int, kills]; rfl) ?_
    refine .reg xr22_7 (by simp [o22_7, builtinD, lenD, pD, argA, ha0, e2]; rfl) ?_
    show V E 22 31 r22_4 _ _
    have hb1' : blk1 0 = .live 3 [encM m] := by rw [e3 0 (by omega)]; exact hb
    have ha1 := tokWr_keep (s := h.next + 4 + 9 + 4) (b := 0) ht1 (by rw [hb1']; simp) (by omega)
    have haft : aftM m s0 (w.take (i + 1)) = (nextM m si w[i]).1 := by rw [htake, aftM_append, hsi]; rfl
    have hrun : runM m s0 (w.take (i + 1)) = runM m s0 (w.take i) ++ [(nextM m si w[i]).2] := by rw [htake, runM_append, hsi]; rfl
    refine .reg xr22_4 (by simp [o22_4, builtinD, lenD, pD, argA, h8]; rfl) ⟨by omega, ?_, ?_, ?_, ?_, ?_, ?_, ⟨.own (h.next + 4 + 9 + 4) 1, ?_, ?_, by simp; omega⟩, ?_⟩
    · simp [upd, hk', haft]
    · simp [upd, h2]
    · simp [upd, h3]
    · simp [upd, hk', hwr]
    · simp only [upds]; rw [ha1]; exact hb1'
    · simp <;> omega
    · simp [upd, hk', hrun]
    · exact TokB.grow (blk := blk1) (by simp <;> omega)
    · rw [hk', haft]; exact nextM_st hv so hwi
  · rintro ⟨A, h⟩ ⟨le, h1, h2, h3, h8, hb, hn, ⟨tk, h7, ht, htn⟩, so⟩
    simp only at h1 h2 h3 h7 h8 hb hn ht
    rw [cl22_0]
    refine .assoc (.then xr22_3 (by simp [o22_3, builtinD, lenD, pD, argA, h8, h2]; rfl) ?_)
    refine .head (by simp [opd, upd]; rfl) (fun hf => by simp at hf) (fun _ => ?_)
    refine .then xr22_8 (by simp [o22_8, builtinD, lenD, pD, argA, h7]; rfl) (.ret ⟨_, by simp [resultsD, mapO, resultD, upd]; rfl, ?_⟩)
    rw [show snapDepth = 7 + 2 from rfl, snap_ints]
    have : Tok.fade true tk = tkA w := by
      rcases ht with rfl | ⟨o, rfl, _, _⟩
      · have : w = [] := by have := htn.1 rfl; simpa using this
        subst this; rfl
      · have : w ≠ [] := fun e => by subst e; have := htn.2 rfl; cases this
        cases w with
        | nil => exact absurd rfl this
        | cons _ _ => rfl
    simp [this]
end Go.Eng.E3
