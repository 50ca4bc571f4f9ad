/-
  Functions of the program as plain functions: rotakeep_two, rotakeep_FlatsModular_1, rotakeep_FlatsModular_2. By a program of mine (shal.py). Conditions: none.
-/
import Derived.Test.YtkjfccdfmjnkbaaAxN
set_option linter.unusedVariables false
set_option linter.unusedSimpArgs false
namespace Go.SH
open Go Go.AX

noncomputable def rotakeep_two  : Option (Int × List Int) :=
  some (4, [3, 5, 6, 9, 10, 12])

noncomputable def rotakeep_FlatsModular_1 (n : Int) : Option (Bool) :=
  some (decide (n ≠ 0))

noncomputable def rotakeep_FlatsModular_2 (n : Int) : Option (Bool) :=
  some (decide (n ≠ 0))

end Go.SH
