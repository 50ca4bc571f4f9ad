/-
  Functions of the program as plain functions: rotakeep_KindsUniform. By a program of mine (shal.py). Conditions: none.
-/
import Derived.Test.YtkjfccdfmjnkbaaAxN
import Derived.Test.YtkjfccdfmjnkbaaSpkinds
import Derived.Test.YtkjfccdfmjnkbaaSpminors
import Derived.Test.YtkjfccdfmjnkbaaSprotalaw
set_option linter.unusedVariables false
set_option linter.unusedSimpArgs false
namespace Go.SH
open Go Go.AX

noncomputable def rotakeep_KindsUniform (rank : Int) (a1 : Int) : Option (Bool) :=
  (kinds_Uniform 0 1).bind fun y =>
  if ¬ (y.2.2 ≠ 0) then
  (rotalaw_Same_int y.2.1 [0]).bind fun y1 =>
  if ¬ (y1 = true) then
  some false
 else
  (kinds_Uniform rank a1).bind fun y2 =>
  if y2.2.2 ≠ 0 then
  some (decide (y2.1 = 0))
 else
  (minors_Dual y2.1 y2.2.1).bind fun y3 =>
  chk ((-9223372036854775808 ≤ (a1 - rank : Int) ∧ (a1 - rank : Int) ≤ 9223372036854775807)) <|
  (kinds_Uniform (a1 - rank) a1).bind fun y4 =>
  (if ¬ ((y3.2.2 ≠ 0 ∨ y4.2.2 ≠ 0)) then rotalaw_SameMatroid y3.1 y3.2.1 y4.1 y4.2.1 else some false).bind fun y5 =>
  if ((y3.2.2 ≠ 0 ∨ y4.2.2 ≠ 0) ∨ ¬ (y5 = true)) then
  some false
 else
  joinM (fun (_ : Unit) =>
  (minors_Free y2.1 y2.2.1).bind fun y9 =>
  if (a1 = 8 ∨ rank = 0) then
  some (decide ((y9.2.2 = 2 ↔ a1 = 8)))
 else
  chk ((-9223372036854775808 ≤ (a1 + 1 : Int) ∧ (a1 + 1 : Int) ≤ 9223372036854775807)) <|
  (kinds_Uniform rank (a1 + 1)).bind fun y10 =>
  (if (y9.2.2 = 0 ∧ y10.2.2 = 0) then rotalaw_SameMatroid y9.1 y9.2.1 y10.1 y10.2.1 else some false).bind fun y11 =>
  some (decide (((y9.2.2 = 0 ∧ y10.2.2 = 0) ∧ y11 = true)))) fun j =>
  if 0 < rank then
  chk ((-9223372036854775808 ≤ (rank - 1 : Int) ∧ (rank - 1 : Int) ≤ 9223372036854775807)) <|
  (minors_Truncate y2.1 y2.2.1 (rank - 1)).bind fun y6 =>
  chk ((-9223372036854775808 ≤ (rank - 1 : Int) ∧ (rank - 1 : Int) ≤ 9223372036854775807)) <|
  (kinds_Uniform (rank - 1) a1).bind fun y7 =>
  (if ¬ ((y6.2.2 ≠ 0 ∨ y7.2.2 ≠ 0)) then rotalaw_SameMatroid y6.1 y6.2.1 y7.1 y7.2.1 else some false).bind fun y8 =>
  if ((y6.2.2 ≠ 0 ∨ y7.2.2 ≠ 0) ∨ ¬ (y8 = true)) then
  some false
 else
  j ()
 else
  j ()
 else
  some false

end Go.SH
