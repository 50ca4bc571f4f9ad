/-
  Functions of the program as plain functions: rotakeep_FieldRing. By a program of mine (shal.py). Conditions: none.
-/
import Derived.Test.YtdhbpoafkhojnaaAxN
import Derived.Test.YtdhbpoafkhojnaaSp
set_option linter.unusedVariables false
set_option linter.unusedSimpArgs false
namespace Go.SH
open Go Go.AX

noncomputable def rotakeep_FieldRing (x_0 : Int) (x_1 : Int) (x_2 : List (List Int)) (a1_0 : Int) (a1_1 : Int) (a1_2 : List (List Int)) (a2_0 : Int) (a2_1 : Int) (a2_2 : List (List Int)) : Option (Bool) :=
  (field_Rank 7 1 [[4]]).bind fun y =>
  if (y.2 ≠ 0 ∨ y.1 ≠ 1) then
  some false
 else
  (field_Reduced x_0 x_1 x_2).bind fun y1 =>
  if y1.2.2.2 ≠ 0 then
  some (decide ((y1.2.2.1.length : Int) = 0))
 else
  (field_Reduced y1.1 y1.2.1 y1.2.2.1).bind fun y2 =>
  (if ¬ (y2.2.2.2 ≠ 0) then rotalaw_Rows_int y1.2.2.1 y2.2.2.1 else some false).bind fun y3 =>
  if (y2.2.2.2 ≠ 0 ∨ ¬ (y3 = true)) then
  some false
 else
  (field_Times x_0 x_1 x_2 a1_0 a1_1 a1_2).bind fun y4 =>
  if y4.2.2.2 ≠ 0 then
  some (decide ((y4.2.2.1.length : Int) = 0))
 else
  (field_Rank x_0 x_1 x_2).bind fun y5 =>
  (field_Rank a1_0 a1_1 a1_2).bind fun y6 =>
  (field_Rank y4.1 y4.2.1 y4.2.2.1).bind fun y7 =>
  if (((y5.2 ≠ 0 ∨ y6.2 ≠ 0) ∨ y7.2 ≠ 0) ∨ min y5.1 y6.1 < y7.1) then
  some false
 else
  (field_Turned x_0 x_1 x_2).bind fun y8 =>
  (field_Turned a1_0 a1_1 a1_2).bind fun y9 =>
  joinM (fun (_ : Unit) =>
  (field_Times a1_0 a1_1 a1_2 a2_0 a2_1 a2_2).bind fun y13 =>
  if y13.2.2.2 ≠ 0 then
  some true
 else
  (field_Times y4.1 y4.2.1 y4.2.2.1 a2_0 a2_1 a2_2).bind fun y14 =>
  (field_Times x_0 x_1 x_2 y13.1 y13.2.1 y13.2.2.1).bind fun y15 =>
  (if (y14.2.2.2 = 0 ∧ y15.2.2.2 = 0) then rotalaw_Rows_int y14.2.2.1 y15.2.2.1 else some false).bind fun y16 =>
  some (decide (((y14.2.2.2 = 0 ∧ y15.2.2.2 = 0) ∧ y16 = true)))) fun j =>
  if (y8.2.2.2 = 0 ∧ y9.2.2.2 = 0) then
  (field_Times y9.1 y9.2.1 y9.2.2.1 y8.1 y8.2.1 y8.2.2.1).bind fun y10 =>
  (field_Turned y4.1 y4.2.1 y4.2.2.1).bind fun y11 =>
  (if ¬ ((y10.2.2.2 ≠ 0 ∨ y11.2.2.2 ≠ 0)) then rotalaw_Rows_int y10.2.2.1 y11.2.2.1 else some false).bind fun y12 =>
  if ((y10.2.2.2 ≠ 0 ∨ y11.2.2.2 ≠ 0) ∨ ¬ (y12 = true)) then
  some false
 else
  j ()
 else
  j ()

end Go.SH
