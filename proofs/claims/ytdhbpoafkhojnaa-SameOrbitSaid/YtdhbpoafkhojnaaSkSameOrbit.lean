/-
  Functions of the program as plain functions: rotakeep_SameOrbit. By a program of mine (shal.py). Conditions: none.
-/
import Derived.Test.YtdhbpoafkhojnaaAxN
import Derived.Test.YtdhbpoafkhojnaaSprotakeep
import Derived.Test.YtdhbpoafkhojnaaSpsameg
set_option linter.unusedVariables false
set_option linter.unusedSimpArgs false
namespace Go.SH
open Go Go.AX

noncomputable def rotakeep_SameOrbit (m_0 : Int) (m_1 : List Int) : Option (Bool) :=
  (same_Group 2 [1]).bind fun y =>
  if (y.2 ≠ 0 ∨ y.1 ≠ 1) then
  some false
 else
  (same_Group m_0 m_1).bind fun y1 =>
  if (y1.2 ≠ 0 ∨ 5 < m_0) then
  some (decide ((y1.2 = 0 ∨ y1.1 = 0)))
 else
  (rotakeep_SameOrbit_1 12 m_0 m_1 [] 0 []).bind fun y2 =>
  chk (((y2.1 = true) → (-9223372036854775808 ≤ (((y2.2.2.2).length : Int) * y1.1 : Int) ∧ (((y2.2.2.2).length : Int) * y1.1 : Int) ≤ 9223372036854775807))) <|
  some (decide ((y2.1 = true ∧ ((y2.2.2.2).length : Int) * y1.1 = y2.2.2.1)))

end Go.SH
