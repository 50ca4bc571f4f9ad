/-
  Functions of the program as plain functions: rotakeep_FlatsSimple. By a program of mine (shal.py). Conditions: none.
-/
import Derived.Test.YtcjhpcbipcdhiaaAxN
import Derived.Test.YtcjhpcbipcdhiaaSpflats
import Derived.Test.YtcjhpcbipcdhiaaSpminors
import Derived.Test.YtcjhpcbipcdhiaaSprotalaw
set_option linter.unusedVariables false
set_option linter.unusedSimpArgs false
namespace Go.SH
open Go Go.AX

noncomputable def rotakeep_FlatsSimple (m_0 : Int) (m_1 : List Int) : Option (Bool) :=
  (flats_Levels 2 [1, 2]).bind fun y =>
  if ¬ (y.2 ≠ 0) then
  (rotalaw_Same_int y.1 [1, 1]).bind fun y1 =>
  if ¬ (y1 = true) then
  some false
 else
  (flats_Levels m_0 m_1).bind fun y2 =>
  (minors_Simple m_0 m_1).bind fun y3 =>
  if y2.2 ≠ 0 then
  some (decide ((y2.2 = y3.2.2 ∧ (y2.1.length : Int) = 0)))
 else
  (flats_Levels y3.1 y3.2.1).bind fun y4 =>
  (flats_Chains m_0 m_1).bind fun y5 =>
  (flats_Chains y3.1 y3.2.1).bind fun y6 =>
  (flats_Mobius m_0 m_1).bind fun y7 =>
  (flats_Mobius y3.1 y3.2.1).bind fun y8 =>
  (if (((((y3.2.2 = 0 ∧ y4.2 = 0) ∧ y5.2 = 0) ∧ y6.2 = 0) ∧ y7.2 = 0) ∧ y8.2 = 0) then rotalaw_Same_int y2.1 y4.1 else some false).bind fun y9 =>
  chk ((((((((((y3.2.2 = 0 ∧ y4.2 = 0) ∧ y5.2 = 0) ∧ y6.2 = 0) ∧ y7.2 = 0) ∧ y8.2 = 0) ∧ y9 = true) ∧ y5.1 = y6.1) ∧ (y7.1.length : Int) = (y8.1.length : Int)) → (-9223372036854775808 ≤ ((y7.1.length : Int) - 1 : Int) ∧ ((y7.1.length : Int) - 1 : Int) ≤ 9223372036854775807)) ∧ (((((((((y3.2.2 = 0 ∧ y4.2 = 0) ∧ y5.2 = 0) ∧ y6.2 = 0) ∧ y7.2 = 0) ∧ y8.2 = 0) ∧ y9 = true) ∧ y5.1 = y6.1) ∧ (y7.1.length : Int) = (y8.1.length : Int)) → (0 ≤ (y7.1.length : Int) - 1 ∧ (y7.1.length : Int) - 1 < y7.1.length)) ∧ (((((((((y3.2.2 = 0 ∧ y4.2 = 0) ∧ y5.2 = 0) ∧ y6.2 = 0) ∧ y7.2 = 0) ∧ y8.2 = 0) ∧ y9 = true) ∧ y5.1 = y6.1) ∧ (y7.1.length : Int) = (y8.1.length : Int)) → (-9223372036854775808 ≤ ((y8.1.length : Int) - 1 : Int) ∧ ((y8.1.length : Int) - 1 : Int) ≤ 9223372036854775807)) ∧ (((((((((y3.2.2 = 0 ∧ y4.2 = 0) ∧ y5.2 = 0) ∧ y6.2 = 0) ∧ y7.2 = 0) ∧ y8.2 = 0) ∧ y9 = true) ∧ y5.1 = y6.1) ∧ (y7.1.length : Int) = (y8.1.length : Int)) → (0 ≤ (y8.1.length : Int) - 1 ∧ (y8.1.length : Int) - 1 < y8.1.length))) <|
  some (decide ((((((((((y3.2.2 = 0 ∧ y4.2 = 0) ∧ y5.2 = 0) ∧ y6.2 = 0) ∧ y7.2 = 0) ∧ y8.2 = 0) ∧ y9 = true) ∧ y5.1 = y6.1) ∧ (y7.1.length : Int) = (y8.1.length : Int)) ∧ y7.1.getD ((y7.1.length : Int) - 1).toNat 0 = y8.1.getD ((y8.1.length : Int) - 1).toNat 0)))
 else
  some false

end Go.SH
