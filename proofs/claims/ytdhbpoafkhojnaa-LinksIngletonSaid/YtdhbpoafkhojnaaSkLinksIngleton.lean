/-
  Functions of the program as plain functions: rotakeep_LinksIngleton. By a program of mine (shal.py). Conditions: none.
-/
import Derived.Test.YtdhbpoafkhojnaaAxN
import Derived.Test.YtdhbpoafkhojnaaSpkindst
import Derived.Test.YtdhbpoafkhojnaaSplinks
import Derived.Test.YtdhbpoafkhojnaaSp
set_option linter.unusedVariables false
set_option linter.unusedSimpArgs false
namespace Go.SH
open Go Go.AX

noncomputable def rotakeep_LinksIngleton (g_0 : Int) (g_1 : List (Int × Int)) (a1 : Int) : Option (Bool) :=
  (links_Sets 2 [(0, 1)] 2).bind fun y =>
  if ¬ (y.2 ≠ 0) then
  (rotalaw_Same_int y.1 [3]).bind fun y1 =>
  if ¬ (y1 = true) then
  some false
 else
  (links_Gammoid g_0 g_1 a1).bind fun y2 =>
  (links_Sets g_0 g_1 a1).bind fun y3 =>
  if y2.2.2 ≠ 0 then
  some (decide (((y2.2.2 = y3.2 ∧ y2.1 = 0) ∧ (y3.1.length : Int) = 0)))
 else
  (minors_Dual y2.1 y2.2.1).bind fun y4 =>
  (kinds_Transversal g_0 y3.1).bind fun y5 =>
  (if ((y3.2 = 0 ∧ y4.2.2 = 0) ∧ y5.2.2 = 0) then rotalaw_SameMatroid y4.1 y4.2.1 y5.1 y5.2.1 else some false).bind fun y6 =>
  some (decide ((((y3.2 = 0 ∧ y4.2.2 = 0) ∧ y5.2.2 = 0) ∧ y6 = true)))
 else
  some false

end Go.SH
