/-
  Functions of the program as plain functions: rotakeep_GameFirst. By a program of mine (shal.py). Conditions: none.
-/
import Derived.Test.YthofnmjokdjppaaAxN
import Derived.Test.YthofnmjokdjppaaSpgame
import Derived.Test.YthofnmjokdjppaaSpclone
set_option linter.unusedVariables false
set_option linter.unusedSimpArgs false
namespace Go.SH
open Go Go.AX

noncomputable def rotakeep_GameFirst (g_0 : Int) (g_1 : List (Int × Int)) (a1 : Int) (a2 : Int) : Option (Bool) :=
  (game_Twins 1 [] 0 0).bind fun y =>
  if ((y.2.2 ≠ 0 ∨ y.1 ≠ 0) ∨ y.2.1 ≠ 0) then
  some false
 else
  (game_Joins g_0 g_1 a1 a2 0 0 true).bind fun y1 =>
  if (y1.2 ≠ 0 ∨ (g_1.length : Int) = 8) then
  some (decide ((y1.2 = 0 ∨ ¬ (y1.1 = true))))
 else
  (slices_Clone_api_Edge_api_Edge g_1).bind fun y2 =>
  chk (((y2 ++ [(a1, a2)]).length ≤ 8796093022208)) <|
  (game_Twins g_0 (y2 ++ [(a1, a2)]) a1 a2).bind fun y3 =>
  some (decide ((y1.1 = true ↔ y3.2.2 = 0)))

end Go.SH
