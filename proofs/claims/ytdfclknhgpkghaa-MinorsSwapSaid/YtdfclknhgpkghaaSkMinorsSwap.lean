/-
  Functions of the program as plain functions: rotakeep_MinorsSwap. By a program of mine (shal.py). Conditions: none.
-/
import Derived.Test.YtdfclknhgpkghaaAxN
import Derived.Test.YtdfclknhgpkghaaSpaxioms
import Derived.Test.YtdfclknhgpkghaaSpminors
import Derived.Test.YtdfclknhgpkghaaSprotakeep
import Derived.Test.YtdfclknhgpkghaaSprotalaw
import Derived.Test.YtdfclknhgpkghaaSprotaref
set_option linter.unusedVariables false
set_option linter.unusedSimpArgs false
namespace Go.SH
open Go Go.AX

noncomputable def rotakeep_MinorsSwap (m_0 : Int) (m_1 : List Int) (a1 : Int) (a2 : Int) : Option (Bool) :=
  (rotakeep_two).bind fun y =>
  (minors_Delete y.1 y.2 1).bind fun y1 =>
  if ((y1.2.2 ≠ 0 ∨ y1.1 ≠ 3) ∨ (y1.2.1.length : Int) ≠ 3) then
  some false
 else
  (axioms_Check m_0 m_1).bind fun y2 =>
  (if ¬ (y2 ≠ 0) then rotaref_IsSet m_0 a1 else some false).bind fun y3 =>
  (if ¬ ((y2 ≠ 0 ∨ ¬ (y3 = true))) then rotaref_IsSet m_0 a2 else some false).bind fun y4 =>
  if (((y2 ≠ 0 ∨ ¬ (y3 = true)) ∨ ¬ (y4 = true)) ∨ iand a1 a2 ≠ 0) then
  some true
 else
  (minors_Delete m_0 m_1 a1).bind fun y5 =>
  (minors_Contract m_0 m_1 a2).bind fun y6 =>
  if (y5.2.2 ≠ 0 ∨ y6.2.2 ≠ 0) then
  some false
 else
  (rotaref_Shifted m_0 a1 a2).bind fun y7 =>
  (minors_Contract y5.1 y5.2.1 y7).bind fun y8 =>
  (rotaref_Shifted m_0 a2 a1).bind fun y9 =>
  (minors_Delete y6.1 y6.2.1 y9).bind fun y10 =>
  (if (y8.2.2 = 0 ∧ y10.2.2 = 0) then rotalaw_SameMatroid y8.1 y8.2.1 y10.1 y10.2.1 else some false).bind fun y11 =>
  some (decide (((y8.2.2 = 0 ∧ y10.2.2 = 0) ∧ y11 = true)))

end Go.SH
