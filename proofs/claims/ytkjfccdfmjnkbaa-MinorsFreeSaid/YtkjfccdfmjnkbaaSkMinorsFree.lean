/-
  Functions of the program as plain functions: rotakeep_MinorsFree. By a program of mine (shal.py). Conditions: none.
-/
import Derived.Test.YtkjfccdfmjnkbaaAxN
import Derived.Test.YtkjfccdfmjnkbaaSpaxioms
import Derived.Test.YtkjfccdfmjnkbaaSpminors
import Derived.Test.YtkjfccdfmjnkbaaSpminorsr
import Derived.Test.YtkjfccdfmjnkbaaSprotalaw
import Derived.Test.YtkjfccdfmjnkbaaSprotaref
set_option linter.unusedVariables false
set_option linter.unusedSimpArgs false
namespace Go.SH
open Go Go.AX

noncomputable def rotakeep_MinorsFree (m_0 : Int) (m_1 : List Int) (a1 : Int) : Option (Bool) :=
  (minors_Free 1 [1]).bind fun y =>
  if ¬ (y.2.2 ≠ 0) then
  (rotalaw_Same_int y.2.1 [1, 2]).bind fun y1 =>
  if ¬ (y1 = true) then
  some false
 else
  (minors_Free m_0 m_1).bind fun y2 =>
  if y2.2.2 ≠ 0 then
  some (decide (y2.1 = 0))
 else
  if (m_1.length : Int) = 0 then
  some false
 else
  chk ((0 ≤ m_0 ∧ m_0 ≤ 62)) <|
  (minors_Delete y2.1 y2.2.1 (2 ^ m_0.toNat : Int)).bind fun y3 =>
  (minors_Contract y2.1 y2.2.1 (2 ^ m_0.toNat : Int)).bind fun y4 =>
  chk (0 < m_1.length) <|
  (rotaref_Size (m_1.getD 0 0)).bind fun y5 =>
  chk ((-9223372036854775808 ≤ (y5 - 1 : Int) ∧ (y5 - 1 : Int) ≤ 9223372036854775807)) <|
  (minors_Truncate m_0 m_1 (max 0 (y5 - 1))).bind fun y6 =>
  (if ¬ (((y3.2.2 ≠ 0 ∨ y4.2.2 ≠ 0) ∨ y6.2.2 ≠ 0)) then rotalaw_SameMatroid y3.1 y3.2.1 m_0 m_1 else some false).bind fun y7 =>
  (if ((¬ ((((y3.2.2 ≠ 0 ∨ y4.2.2 ≠ 0) ∨ y6.2.2 ≠ 0) ∨ ¬ (y7 = true)))) ∧ 0 < y5) then rotalaw_SameMatroid y4.1 y4.2.1 y6.1 y6.2.1 else some false).bind fun y8 =>
  (if ¬ (((((y3.2.2 ≠ 0 ∨ y4.2.2 ≠ 0) ∨ y6.2.2 ≠ 0) ∨ ¬ (y7 = true)) ∨ (0 < y5 ∧ ¬ (y8 = true)))) then axioms_Check y2.1 y2.2.1 else some 0).bind fun y9 =>
  if (((((y3.2.2 ≠ 0 ∨ y4.2.2 ≠ 0) ∨ y6.2.2 ≠ 0) ∨ ¬ (y7 = true)) ∨ (0 < y5 ∧ ¬ (y8 = true))) ∨ y9 ≠ 0) then
  some false
 else
  (minors_Relax m_0 m_1 a1).bind fun y10 =>
  if y10.2.2 ≠ 0 then
  some (decide (y10.1 = 0))
 else
  (axioms_Check y10.1 y10.2.1).bind fun y11 =>
  chk (((y11 = 0) → (-9223372036854775808 ≤ ((m_1.length : Int) + 1 : Int) ∧ ((m_1.length : Int) + 1 : Int) ≤ 9223372036854775807))) <|
  some (decide ((y11 = 0 ∧ (y10.2.1.length : Int) = (m_1.length : Int) + 1)))
 else
  some false

end Go.SH
