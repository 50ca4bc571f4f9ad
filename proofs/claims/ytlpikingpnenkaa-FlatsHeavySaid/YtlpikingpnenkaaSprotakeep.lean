/-
  Functions of the program as plain functions: rotakeep_two. By a program of mine (shal.py). Conditions: none.
-/
import Derived.Test.YtlpikingpnenkaaAxN
set_option linter.unusedVariables false
set_option linter.unusedSimpArgs false
namespace Go.SH
open Go Go.AX

noncomputable def rotakeep_two  : Option (Int × List Int) :=
  some (4, [3, 5, 6, 9, 10, 12])

end Go.SH
