import Derived.Test.YtcogomacihefoaaKnK0
import Derived.Test.YtcogomacihefoaaKnQ0
import Derived.Test.YtcogomacihefoaaKnK1
import Derived.Test.YtcogomacihefoaaKnQ1
import Derived.Test.YtcogomacihefoaaKnK2
import Derived.Test.YtcogomacihefoaaKnQ2
import Derived.Test.YtcogomacihefoaaKnK3
import Derived.Test.YtcogomacihefoaaKnQ3
import Derived.Test.YtcogomacihefoaaKnK4
import Derived.Test.YtcogomacihefoaaKnQ4
import Derived.Test.YtcogomacihefoaaKnK5
import Derived.Test.YtcogomacihefoaaKnQ5
import Derived.Test.YtcogomacihefoaaKnK6
import Derived.Test.YtcogomacihefoaaKnQ6
import Derived.Test.YtcogomacihefoaaKnK7
import Derived.Test.YtcogomacihefoaaKnQ7
set_option linter.unusedVariables false
set_option linter.unusedSimpArgs false
set_option linter.unusedSectionVars false
set_option linter.deprecated false
namespace Go.Eng.E3
open Go Go.Eng Go.Proofs
theorem kinst : ∀ n, n < 40 → KInst n
  | 0, _ => ⟨i27_0, i28_0, i29_0⟩
  | 1, _ => ⟨i27_1, i28_1, i29_1⟩
  | 2, _ => ⟨i27_2, i28_2, i29_2⟩
  | 3, _ => ⟨i27_3, i28_3, i29_3⟩
  | 4, _ => ⟨i27_4, i28_4, i29_4⟩
  | 5, _ => ⟨i27_5, i28_5, i29_5⟩
  | 6, _ => ⟨i27_6, i28_6, i29_6⟩
  | 7, _ => ⟨i27_7, i28_7, i29_7⟩
  | 8, _ => ⟨i27_8, i28_8, i29_8⟩
  | 9, _ => ⟨i27_9, i28_9, i29_9⟩
  | 10, _ => ⟨i27_10, i28_10, i29_10⟩
  | 11, _ => ⟨i27_11, i28_11, i29_11⟩
  | 12, _ => ⟨i27_12, i28_12, i29_12⟩
  | 13, _ => ⟨i27_13, i28_13, i29_13⟩
  | 14, _ => ⟨i27_14, i28_14, i29_14⟩
  | 15, _ => ⟨i27_15, i28_15, i29_15⟩
  | 16, _ => ⟨i27_16, i28_16, i29_16⟩
  | 17, _ => ⟨i27_17, i28_17, i29_17⟩
  | 18, _ => ⟨i27_18, i28_18, i29_18⟩
  | 19, _ => ⟨i27_19, i28_19, i29_19⟩
  | 20, _ => ⟨i27_20, i28_20, i29_20⟩
  | 21, _ => ⟨i27_21, i28_21, i29_21⟩
  | 22, _ => ⟨i27_22, i28_22, i29_22⟩
  | 23, _ => ⟨i27_23, i28_23, i29_23⟩
  | 24, _ => ⟨i27_24, i28_24, i29_24⟩
  | 25, _ => ⟨i27_25, i28_25, i29_25⟩
  | 26, _ => ⟨i27_26, i28_26, i29_26⟩
  | 27, _ => ⟨i27_27, i28_27, i29_27⟩
  | 28, _ => ⟨i27_28, i28_28, i29_28⟩
  | 29, _ => ⟨i27_29, i28_29, i29_29⟩
  | 30, _ => ⟨i27_30, i28_30, i29_30⟩
  | 31, _ => ⟨i27_31, i28_31, i29_31⟩
  | 32, _ => ⟨i27_32, i28_32, i29_32⟩
  | 33, _ => ⟨i27_33, i28_33, i29_33⟩
  | 34, _ => ⟨i27_34, i28_34, i29_34⟩
  | 35, _ => ⟨i27_35, i28_35, i29_35⟩
  | 36, _ => ⟨i27_36, i28_36, i29_36⟩
  | 37, _ => ⟨i27_37, i28_37, i29_37⟩
  | 38, _ => ⟨i27_38, i28_38, i29_38⟩
  | 39, _ => ⟨i27_39, i28_39, i29_39⟩
  | n + 40, h => by omega
theorem whole5 : ∃ h', bodyI E 5 [] H.empty = some (.bool true, h') := bodyI_of_bodyR (spec5 kinst)
end Go.Eng.E3
