/-
  Functions of the program as plain functions: rotakeep_KindsAre. By a program of mine (shal.py). Conditions: none.
-/
import Derived.Test.YtdhbpoafkhojnaaAxN
import Derived.Test.YtdhbpoafkhojnaaSp
set_option linter.unusedVariables false
set_option linter.unusedSimpArgs false
namespace Go.SH
open Go Go.AX

noncomputable def rotakeep_KindsAre (g_0 : Int) (g_1 : List (Int × Int)) (a1_0 : Int) (a1_1 : Int) (a1_2 : List (List Int)) (a2 : Int) (a3 : List Int) (a4 : List Int) : Option (Bool) :=
  (kinds_Graphic 2 [(0, 1)]).bind fun y =>
  if ¬ (y.2.2 ≠ 0) then
  (rotalaw_Same_int y.2.1 [1]).bind fun y1 =>
  if ¬ (y1 = true) then
  some false
 else
  (rotakeep_KindsAre_1 g_0 g_1).bind fun y2 =>
  (if y2.2.2 = 0 then axioms_Check y2.1 y2.2.1 else some 0).bind fun y3 =>
  if ((y2.2.2 = 0 ∧ y3 ≠ 0) ∨ (y2.2.2 ≠ 0 ∧ (y2.1 ≠ 0 ∨ 0 < (y2.2.1.length : Int)))) then
  some false
 else
  (rotakeep_KindsAre_2 a1_0 a1_1 a1_2).bind fun y4 =>
  (if y4.2.2 = 0 then axioms_Check y4.1 y4.2.1 else some 0).bind fun y5 =>
  if ((y4.2.2 = 0 ∧ y5 ≠ 0) ∨ (y4.2.2 ≠ 0 ∧ (y4.1 ≠ 0 ∨ 0 < (y4.2.1.length : Int)))) then
  some false
 else
  (rotakeep_KindsAre_3 a2 a3).bind fun y6 =>
  (if y6.2.2 = 0 then axioms_Check y6.1 y6.2.1 else some 0).bind fun y7 =>
  if ((y6.2.2 = 0 ∧ y7 ≠ 0) ∨ (y6.2.2 ≠ 0 ∧ (y6.1 ≠ 0 ∨ 0 < (y6.2.1.length : Int)))) then
  some false
 else
  (rotakeep_KindsAre_4 a2 a3 a4).bind fun y8 =>
  (if y8.2.2 = 0 then axioms_Check y8.1 y8.2.1 else some 0).bind fun y9 =>
  if ((y8.2.2 = 0 ∧ y9 ≠ 0) ∨ (y8.2.2 ≠ 0 ∧ (y8.1 ≠ 0 ∨ 0 < (y8.2.1.length : Int)))) then
  some false
 else
  some true
 else
  some false

end Go.SH
