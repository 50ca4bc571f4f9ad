/-
  Functions of the program as plain functions: rotakeep_FieldKernel. By a program of mine (shal.py). Conditions: none.
-/
import Derived.Test.YtdhbpoafkhojnaaAxN
import Derived.Test.YtdhbpoafkhojnaaSp
set_option linter.unusedVariables false
set_option linter.unusedSimpArgs false
namespace Go.SH
open Go Go.AX

noncomputable def rotakeep_FieldKernel (x_0 : Int) (x_1 : Int) (x_2 : List (List Int)) : Option (Bool) :=
  (field_Kernel 2 2 [[1, 1]]).bind fun y =>
  if ¬ (y.2.2.2 ≠ 0) then
  (rotalaw_Rows_int y.2.2.1 [[1, 1]]).bind fun y1 =>
  if ¬ (y1 = true) then
  some false
 else
  (field_Kernel x_0 x_1 x_2).bind fun y2 =>
  if y2.2.2.2 ≠ 0 then
  some (decide ((y2.2.2.1.length : Int) = 0))
 else
  (field_Kernel y2.1 y2.2.1 y2.2.2.1).bind fun y3 =>
  (field_Reduced x_0 x_1 x_2).bind fun y4 =>
  (kinds_Linear x_0 x_1 x_2).bind fun y5 =>
  (kinds_Linear y2.1 y2.2.1 y2.2.2.1).bind fun y6 =>
  if y3.2.2.2 ≠ 0 then
  some (decide ((y3.2.2.2 = 2 ∧ 6 < (y4.2.2.1.length : Int))))
 else
  (minors_Dual y5.1 y5.2.1).bind fun y7 =>
  (if (((y4.2.2.2 = 0 ∧ y5.2.2 = 0) ∧ y6.2.2 = 0) ∧ y7.2.2 = 0) then rotalaw_Rows_int y3.2.2.1 y4.2.2.1 else some false).bind fun y8 =>
  (if ((((y4.2.2.2 = 0 ∧ y5.2.2 = 0) ∧ y6.2.2 = 0) ∧ y7.2.2 = 0) ∧ y8 = true) then rotalaw_SameMatroid y7.1 y7.2.1 y6.1 y6.2.1 else some false).bind fun y9 =>
  some (decide ((((((y4.2.2.2 = 0 ∧ y5.2.2 = 0) ∧ y6.2.2 = 0) ∧ y7.2.2 = 0) ∧ y8 = true) ∧ y9 = true)))
 else
  some false

end Go.SH
