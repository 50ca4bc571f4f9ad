/-
  Functions of the program as plain functions: rotakeep_AxiomsBack. By a program of mine (shal.py). Conditions: none.
-/
import Derived.Test.YtdfclknhgpkghaaAxN
import Derived.Test.YtdfclknhgpkghaaSpaxioms
import Derived.Test.YtdfclknhgpkghaaSprotakeep
import Derived.Test.YtdfclknhgpkghaaSprotalaw
set_option linter.unusedVariables false
set_option linter.unusedSimpArgs false
namespace Go.SH
open Go Go.AX

noncomputable def rotakeep_AxiomsBack (m_0 : Int) (m_1 : List Int) : Option (Bool) :=
  (rotakeep_two).bind fun y =>
  (axioms_Circuits y.1 y.2).bind fun y1 =>
  if ¬ (y1.2 ≠ 0) then
  (rotalaw_Same_int y1.1 [7, 11, 13, 14]).bind fun y2 =>
  if ¬ (y2 = true) then
  some false
 else
  (axioms_Check m_0 m_1).bind fun y3 =>
  if y3 ≠ 0 then
  some true
 else
  (axioms_Independents m_0 m_1).bind fun y4 =>
  (axioms_Circuits m_0 m_1).bind fun y5 =>
  (axioms_Ranks m_0 m_1).bind fun y6 =>
  (axioms_Flats m_0 m_1).bind fun y7 =>
  (axioms_Hyperplanes m_0 m_1).bind fun y8 =>
  if ((((y4.2 ≠ 0 ∨ y5.2 ≠ 0) ∨ y6.2 ≠ 0) ∨ y7.2 ≠ 0) ∨ y8.2 ≠ 0) then
  some false
 else
  (axioms_OfIndependents m_0 y4.1).bind fun y9 =>
  (axioms_OfCircuits m_0 y5.1).bind fun y10 =>
  (axioms_OfRanks m_0 y6.1).bind fun y11 =>
  (axioms_OfFlats m_0 y7.1).bind fun y12 =>
  (axioms_OfHyperplanes m_0 y8.1).bind fun y13 =>
  (if ((((y9.2.2 = 0 ∧ y10.2.2 = 0) ∧ y11.2.2 = 0) ∧ y12.2.2 = 0) ∧ y13.2.2 = 0) then rotalaw_SameMatroid y9.1 y9.2.1 m_0 m_1 else some false).bind fun y14 =>
  (if (((((y9.2.2 = 0 ∧ y10.2.2 = 0) ∧ y11.2.2 = 0) ∧ y12.2.2 = 0) ∧ y13.2.2 = 0) ∧ y14 = true) then rotalaw_SameMatroid y10.1 y10.2.1 m_0 m_1 else some false).bind fun y15 =>
  (if ((((((y9.2.2 = 0 ∧ y10.2.2 = 0) ∧ y11.2.2 = 0) ∧ y12.2.2 = 0) ∧ y13.2.2 = 0) ∧ y14 = true) ∧ y15 = true) then rotalaw_SameMatroid y11.1 y11.2.1 m_0 m_1 else some false).bind fun y16 =>
  (if (((((((y9.2.2 = 0 ∧ y10.2.2 = 0) ∧ y11.2.2 = 0) ∧ y12.2.2 = 0) ∧ y13.2.2 = 0) ∧ y14 = true) ∧ y15 = true) ∧ y16 = true) then rotalaw_SameMatroid y12.1 y12.2.1 m_0 m_1 else some false).bind fun y17 =>
  (if ((((((((y9.2.2 = 0 ∧ y10.2.2 = 0) ∧ y11.2.2 = 0) ∧ y12.2.2 = 0) ∧ y13.2.2 = 0) ∧ y14 = true) ∧ y15 = true) ∧ y16 = true) ∧ y17 = true) then rotalaw_SameMatroid y13.1 y13.2.1 m_0 m_1 else some false).bind fun y18 =>
  some (decide ((((((((((y9.2.2 = 0 ∧ y10.2.2 = 0) ∧ y11.2.2 = 0) ∧ y12.2.2 = 0) ∧ y13.2.2 = 0) ∧ y14 = true) ∧ y15 = true) ∧ y16 = true) ∧ y17 = true) ∧ y18 = true)))
 else
  some false

end Go.SH
