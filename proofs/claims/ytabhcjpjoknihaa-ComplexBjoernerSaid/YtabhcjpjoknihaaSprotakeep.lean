/-
  Functions of the program as plain functions: rotakeep_two, rotakeep_TutteCrapo_1. By a program of mine (shal.py). Conditions: none.
-/
import Derived.Test.YtabhcjpjoknihaaAxN
set_option linter.unusedVariables false
set_option linter.unusedSimpArgs false
namespace Go.SH
open Go Go.AX

noncomputable def rotakeep_two  : Option (Int × List Int) :=
  some (4, [3, 5, 6, 9, 10, 12])

noncomputable def rotakeep_TutteCrapo_1 (k : Int) : Option (Bool) :=
  some (decide (k ≠ 1))

end Go.SH
