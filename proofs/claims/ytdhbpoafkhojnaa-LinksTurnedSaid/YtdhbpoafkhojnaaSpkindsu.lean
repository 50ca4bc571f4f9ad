/-
  Functions of the program as plain functions: kinds_Uniform. By a program of mine (shal.py). Conditions: none.
-/
import Derived.Test.YtdhbpoafkhojnaaAxN
import Derived.Test.YtdhbpoafkhojnaaSp
set_option linter.unusedVariables false
set_option linter.unusedSimpArgs false
namespace Go.SH
open Go Go.AX

noncomputable def kinds_Uniform (rank : Int) (n : Int) : Option (Int × List Int × Int) :=
  (sets_Choose n rank).bind fun y =>
  if y.2 ≠ 0 then
  some (0, [], y.2)
 else
  some (n, y.1, 0)

end Go.SH
