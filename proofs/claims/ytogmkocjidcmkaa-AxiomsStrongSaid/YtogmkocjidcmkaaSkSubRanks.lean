/-
  Functions of the program as plain functions: rotakeep_SubRanks. By a program of mine (shal.py). Conditions: none.
-/
import Derived.Test.YtogmkocjidcmkaaAxN
import Derived.Test.YtogmkocjidcmkaaSpaxioms
import Derived.Test.YtogmkocjidcmkaaSprotalaw
import Derived.Test.YtogmkocjidcmkaaSpsub
set_option linter.unusedVariables false
set_option linter.unusedSimpArgs false
namespace Go.SH
open Go Go.AX

noncomputable def rotakeep_SubRanks (m_0 : Int) (m_1 : List Int) : Option (Bool) :=
  (sub_Induced 1 [0, 1]).bind fun y =>
  if ¬ (y.2.2 ≠ 0) then
  (rotalaw_Same_int y.2.1 [1]).bind fun y1 =>
  if ¬ (y1 = true) then
  some false
 else
  (axioms_Ranks m_0 m_1).bind fun y2 =>
  if y2.2 ≠ 0 then
  some (decide ((y2.1.length : Int) = 0))
 else
  (sub_Induced m_0 y2.1).bind fun y3 =>
  (if y3.2.2 = 0 then rotalaw_SameMatroid y3.1 y3.2.1 m_0 m_1 else some false).bind fun y4 =>
  (if (y3.2.2 = 0 ∧ y4 = true) then sub_Check m_0 y2.1 else some 0).bind fun y5 =>
  some (decide (((y3.2.2 = 0 ∧ y4 = true) ∧ y5 = 0)))
 else
  some false

end Go.SH
