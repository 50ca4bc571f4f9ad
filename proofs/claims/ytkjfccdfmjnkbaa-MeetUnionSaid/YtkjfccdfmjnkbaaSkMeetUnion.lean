/-
  Functions of the program as plain functions: rotakeep_MeetUnion. By a program of mine (shal.py). Conditions: none.
-/
import Derived.Test.YtkjfccdfmjnkbaaAxN
import Derived.Test.YtkjfccdfmjnkbaaSpjoin
import Derived.Test.YtkjfccdfmjnkbaaSpmeet
import Derived.Test.YtkjfccdfmjnkbaaSpminors
import Derived.Test.YtkjfccdfmjnkbaaSprotakeep
import Derived.Test.YtkjfccdfmjnkbaaSprotaref
set_option linter.unusedVariables false
set_option linter.unusedSimpArgs false
namespace Go.SH
open Go Go.AX

noncomputable def rotakeep_MeetUnion (a_0 : Int) (a_1 : List Int) (a1_0 : Int) (a1_1 : List Int) : Option (Bool) :=
  (rotakeep_two).bind fun y =>
  (rotakeep_two).bind fun y1 =>
  (meet_Common y.1 y.2 y1.1 y1.2).bind fun y2 =>
  if (y2.2.2 ≠ 0 ∨ y2.1 ≠ 3) then
  some false
 else
  (meet_Common a_0 a_1 a1_0 a1_1).bind fun y3 =>
  if y3.2.2 ≠ 0 then
  some (decide (y3.1 = 0))
 else
  (minors_Dual a1_0 a1_1).bind fun y4 =>
  (join_Union a_0 a_1 y4.1 y4.2.1).bind fun y5 =>
  (if (((y4.2.2 = 0 ∧ y5.2.2 = 0) ∧ 0 < (y5.2.1.length : Int)) ∧ 0 < (y4.2.1.length : Int)) then rotaref_Size y3.1 else some 0).bind fun y6 =>
  chk (((((y4.2.2 = 0 ∧ y5.2.2 = 0) ∧ 0 < (y5.2.1.length : Int)) ∧ 0 < (y4.2.1.length : Int)) → (0 ≤ 0 ∧ 0 < y5.2.1.length))) <|
  (if (((y4.2.2 = 0 ∧ y5.2.2 = 0) ∧ 0 < (y5.2.1.length : Int)) ∧ 0 < (y4.2.1.length : Int)) then rotaref_Size (y5.2.1.getD 0 0) else some 0).bind fun y7 =>
  chk (((((y4.2.2 = 0 ∧ y5.2.2 = 0) ∧ 0 < (y5.2.1.length : Int)) ∧ 0 < (y4.2.1.length : Int)) → (0 ≤ 0 ∧ 0 < y4.2.1.length))) <|
  (if (((y4.2.2 = 0 ∧ y5.2.2 = 0) ∧ 0 < (y5.2.1.length : Int)) ∧ 0 < (y4.2.1.length : Int)) then rotaref_Size (y4.2.1.getD 0 0) else some 0).bind fun y8 =>
  chk (((((y4.2.2 = 0 ∧ y5.2.2 = 0) ∧ 0 < (y5.2.1.length : Int)) ∧ 0 < (y4.2.1.length : Int)) → (-9223372036854775808 ≤ (y7 - y8 : Int) ∧ (y7 - y8 : Int) ≤ 9223372036854775807))) <|
  some (decide (((((y4.2.2 = 0 ∧ y5.2.2 = 0) ∧ 0 < (y5.2.1.length : Int)) ∧ 0 < (y4.2.1.length : Int)) ∧ y6 = y7 - y8)))

end Go.SH
