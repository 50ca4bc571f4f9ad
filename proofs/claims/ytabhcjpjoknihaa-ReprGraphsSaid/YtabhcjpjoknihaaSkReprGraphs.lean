/-
  Functions of the program as plain functions: rotakeep_ReprGraphs. By a program of mine (shal.py). Conditions: none.
-/
import Derived.Test.YtabhcjpjoknihaaAxN
import Derived.Test.YtabhcjpjoknihaaSp
set_option linter.unusedVariables false
set_option linter.unusedSimpArgs false
namespace Go.SH
open Go Go.AX

noncomputable def rotakeep_ReprGraphs (g_0 : Int) (g_1 : List (Int × Int)) : Option (Bool) :=
  (repr_Represent 1 [1] 2).bind fun y =>
  if ¬ (y.2.2.2 ≠ 0) then
  (rotalaw_Rows_int y.2.2.1 [[1]]).bind fun y1 =>
  if ¬ (y1 = true) then
  some false
 else
  (kinds_Graphic g_0 g_1).bind fun y2 =>
  if y2.2.2 ≠ 0 then
  some true
 else
  (minors_Dual y2.1 y2.2.1).bind fun y3 =>
  (repr_Regular y2.1 y2.2.1).bind fun y4 =>
  (repr_Regular y3.1 y3.2.1).bind fun y5 =>
  some (decide (((((y3.2.2 = 0 ∧ y4.2 = 0) ∧ y5.2 = 0) ∧ y4.1 = true) ∧ y5.1 = true)))
 else
  some false

end Go.SH
