/-
  Functions of the program as plain functions: rotakeep_MeetSame. By a program of mine (shal.py). Conditions: none.
-/
import Derived.Test.YtkjfccdfmjnkbaaAxN
import Derived.Test.YtkjfccdfmjnkbaaSpaxioms
import Derived.Test.YtkjfccdfmjnkbaaSpgreedy
import Derived.Test.YtkjfccdfmjnkbaaSpmeet
import Derived.Test.YtkjfccdfmjnkbaaSprotakeep
import Derived.Test.YtkjfccdfmjnkbaaSprotaref
import Derived.Test.YtkjfccdfmjnkbaaSpslices
set_option linter.unusedVariables false
set_option linter.unusedSimpArgs false
namespace Go.SH
open Go Go.AX

noncomputable def rotakeep_MeetSame (m_0 : Int) (m_1 : List Int) (a1 : List Int) (a2 : Int) : Option (Bool) :=
  (rotakeep_two).bind fun y =>
  (rotakeep_two).bind fun y1 =>
  (meet_Spanned y.1 y.2 y1.1 y1.2 3).bind fun y2 =>
  if (y2.2 ≠ 0 ∨ y2.1 ≠ 15) then
  some false
 else
  (meet_Common m_0 m_1 m_0 m_1).bind fun y3 =>
  if y3.2.2 ≠ 0 then
  some (decide (y3.1 = 0))
 else
  (slices_Contains_int_int m_1 y3.1).bind fun y4 =>
  if ¬ (y4 = true) then
  some false
 else
  joinM (fun (_ : Unit) =>
  (meet_Spanned m_0 m_1 m_0 m_1 a2).bind fun y8 =>
  (axioms_Closure m_0 m_1 a2).bind fun y9 =>
  some (decide ((y8.2 = y9.2 ∧ y8.1 = y9.1)))) fun j =>
  (meet_Heaviest m_0 m_1 m_0 m_1 a1).bind fun y5 =>
  if y5.2 = 0 then
  (greedy_Best m_0 m_1 a1).bind fun y6 =>
  chk (((¬ (y6.2.2 ≠ 0)) → (-9223372036854775808 ≤ ((y5.1.length : Int) - 1 : Int) ∧ ((y5.1.length : Int) - 1 : Int) ≤ 9223372036854775807)) ∧ ((¬ (y6.2.2 ≠ 0)) → (0 ≤ (y5.1.length : Int) - 1 ∧ (y5.1.length : Int) - 1 < y5.1.length))) <|
  (if ¬ (y6.2.2 ≠ 0) then rotaref_Weighs a1 (y5.1.getD ((y5.1.length : Int) - 1).toNat 0) else some 0).bind fun y7 =>
  if (y6.2.2 ≠ 0 ∨ y7 ≠ y6.2.1) then
  some false
 else
  j ()
 else
  j ()

end Go.SH
