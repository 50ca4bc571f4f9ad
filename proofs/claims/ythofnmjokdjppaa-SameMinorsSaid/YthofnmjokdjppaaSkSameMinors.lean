/-
  Functions of the program as plain functions: rotakeep_SameMinors. By a program of mine (shal.py). Conditions: none.
-/
import Derived.Test.YthofnmjokdjppaaAxN
import Derived.Test.YthofnmjokdjppaaSpaxioms
import Derived.Test.YthofnmjokdjppaaSpminors
import Derived.Test.YthofnmjokdjppaaSprotakeep
import Derived.Test.YthofnmjokdjppaaSprotaref
import Derived.Test.YthofnmjokdjppaaSpsame
set_option linter.unusedVariables false
set_option linter.unusedSimpArgs false
namespace Go.SH
open Go Go.AX

noncomputable def rotakeep_SameMinors (m_0 : Int) (m_1 : List Int) (a1_0 : Int) (a1_1 : List Int) (a2 : Int) (a3 : Int) : Option (Bool) :=
  (rotakeep_two).bind fun y =>
  (same_Minor y.1 y.2 2 [1, 2]).bind fun y1 =>
  if ((y1.2.2 ≠ 0 ∨ y1.1 ≠ 1) ∨ y1.2.1 ≠ 2) then
  some false
 else
  (same_Minor m_0 m_1 a1_0 a1_1).bind fun y2 =>
  joinM (fun (_ : Unit) =>
  (axioms_Check m_0 m_1).bind fun y7 =>
  (if ¬ (y7 ≠ 0) then axioms_Check a1_0 a1_1 else some 0).bind fun y8 =>
  if (y7 ≠ 0 ∨ y8 ≠ 0) then
  some (decide (((y2.2.2 ≠ 0 ∧ y2.1 = 0) ∧ y2.2.1 = 0)))
 else
  (minors_Dual m_0 m_1).bind fun y9 =>
  (minors_Dual a1_0 a1_1).bind fun y10 =>
  (same_Minor y9.1 y9.2.1 y10.1 y10.2.1).bind fun y11 =>
  if ¬ (y2.2.2 = 0 ↔ y11.2.2 = 0) then
  some false
 else
  (rotaref_IsSet m_0 a2).bind fun y12 =>
  (if ¬ (¬ (y12 = true)) then rotaref_IsSet m_0 a3 else some false).bind fun y13 =>
  if ((¬ (y12 = true) ∨ ¬ (y13 = true)) ∨ iand a2 a3 ≠ 0) then
  some true
 else
  (minors_Delete m_0 m_1 a2).bind fun y14 =>
  (rotaref_Shifted m_0 a2 a3).bind fun y15 =>
  (minors_Contract y14.1 y14.2.1 y15).bind fun y16 =>
  (same_Minor m_0 m_1 y16.1 y16.2.1).bind fun y17 =>
  some (decide ((y16.2.2 = 0 ∧ y17.2.2 = 0)))) fun j =>
  if y2.2.2 = 0 then
  (minors_Delete m_0 m_1 y2.1).bind fun y3 =>
  (rotaref_Shifted m_0 y2.1 y2.2.1).bind fun y4 =>
  (minors_Contract y3.1 y3.2.1 y4).bind fun y5 =>
  (same_Isomorphic y5.1 y5.2.1 a1_0 a1_1).bind fun y6 =>
  if (((y3.2.2 ≠ 0 ∨ y5.2.2 ≠ 0) ∨ y6.2 ≠ 0) ∨ iand y2.1 y2.2.1 ≠ 0) then
  some false
 else
  j ()
 else
  j ()

end Go.SH
