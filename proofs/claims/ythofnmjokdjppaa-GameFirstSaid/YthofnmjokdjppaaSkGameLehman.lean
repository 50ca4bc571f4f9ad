/-
  Functions of the program as plain functions: rotakeep_GameLehman. By a program of mine (shal.py). Conditions: none.
-/
import Derived.Test.YthofnmjokdjppaaAxN
import Derived.Test.YthofnmjokdjppaaSpgame
import Derived.Test.YthofnmjokdjppaaSprotaref
set_option linter.unusedVariables false
set_option linter.unusedSimpArgs false
namespace Go.SH
open Go Go.AX

noncomputable def rotakeep_GameLehman (g_0 : Int) (g_1 : List (Int × Int)) (a1 : Int) (a2 : Int) : Option (Bool) :=
  (game_Joins 2 [(0, 1)] 0 1 0 0 true).bind fun y =>
  if (y.2 ≠ 0 ∨ ¬ (y.1 = true)) then
  some false
 else
  (game_Joins g_0 g_1 a1 a2 0 0 false).bind fun y1 =>
  (game_Twins g_0 g_1 a1 a2).bind fun y2 =>
  if y1.2 ≠ 0 then
  some (decide ((((y1.2 = y2.2.2 ∧ ¬ (y1.1 = true)) ∧ y2.1 = 0) ∧ y2.2.1 = 0)))
 else
  if ¬ (y1.1 = true ↔ y2.2.2 = 0) then
  some false
 else
  if y2.2.2 ≠ 0 then
  some (decide (((y2.2.2 = 5 ∧ y2.1 = 0) ∧ y2.2.1 = 0)))
 else
  (if iand y2.1 y2.2.1 = 0 then rotaref_Joined g_0 g_1 y2.1 a1 a2 else some false).bind fun y3 =>
  (if (iand y2.1 y2.2.1 = 0 ∧ y3 = true) then rotaref_Joined g_0 g_1 y2.2.1 a1 a2 else some false).bind fun y4 =>
  (if ((iand y2.1 y2.2.1 = 0 ∧ y3 = true) ∧ y4 = true) then rotaref_Size y2.1 else some 0).bind fun y5 =>
  (if ((iand y2.1 y2.2.1 = 0 ∧ y3 = true) ∧ y4 = true) then rotaref_Size y2.2.1 else some 0).bind fun y6 =>
  some (decide ((((iand y2.1 y2.2.1 = 0 ∧ y3 = true) ∧ y4 = true) ∧ y5 = y6)))

end Go.SH
