/-
  Functions of the program as plain functions: rotakeep_JoinUnion. By a program of mine (shal.py). Conditions: none.
-/
import Derived.Test.YtkjfccdfmjnkbaaAxN
import Derived.Test.YtkjfccdfmjnkbaaSpaxioms
import Derived.Test.YtkjfccdfmjnkbaaSpjoin
import Derived.Test.YtkjfccdfmjnkbaaSpjoinc
import Derived.Test.YtkjfccdfmjnkbaaSprotakeep
import Derived.Test.YtkjfccdfmjnkbaaSprotalaw
import Derived.Test.YtkjfccdfmjnkbaaSprotaref
set_option linter.unusedVariables false
set_option linter.unusedSimpArgs false
namespace Go.SH
open Go Go.AX

noncomputable def rotakeep_JoinUnion (a_0 : Int) (a_1 : List Int) (a1_0 : Int) (a1_1 : List Int) : Option (Bool) :=
  (rotakeep_two).bind fun y =>
  (rotakeep_two).bind fun y1 =>
  (join_Union y.1 y.2 y1.1 y1.2).bind fun y2 =>
  if ¬ (y2.2.2 ≠ 0) then
  (rotalaw_Same_int y2.2.1 [15]).bind fun y3 =>
  if ¬ (y3 = true) then
  some false
 else
  (join_Union a_0 a_1 a1_0 a1_1).bind fun y4 =>
  (join_Union a1_0 a1_1 a_0 a_1).bind fun y5 =>
  if y4.2.2 ≠ 0 then
  some (decide ((y4.1 = 0 ∧ y5.1 = 0)))
 else
  (if ¬ (y5.2.2 ≠ 0) then rotalaw_SameMatroid y4.1 y4.2.1 y5.1 y5.2.1 else some false).bind fun y6 =>
  (if ¬ ((y5.2.2 ≠ 0 ∨ ¬ (y6 = true))) then axioms_Check y4.1 y4.2.1 else some 0).bind fun y7 =>
  if ((y5.2.2 ≠ 0 ∨ ¬ (y6 = true)) ∨ y7 ≠ 0) then
  some false
 else
  (join_Cover a_0 a_1).bind fun y8 =>
  if (y8.2 ≠ 0 ∨ a_0 = 0) then
  some true
 else
  (loopM (ρ := Unit ⊕ Bool) (fun ((v, v1, v2) : Int × List Int × Int) =>
  if v2 ≤ (y8.1.length : Int) then
  chk (((¬ ((v1.length : Int) = 0)) → 0 < v1.length)) <|
  (if ¬ ((v1.length : Int) = 0) then rotaref_All a_0 else some 0).bind fun y9 =>
  if ((v1.length : Int) = 0 ∨ ¬ (v1.getD 0 0 = y9 ↔ v2 = (y8.1.length : Int))) then
  some (.inr (.inr false))
 else
  (join_Union v v1 a_0 a_1).bind fun y10 =>
  if y10.2.2 ≠ 0 then
  some (.inr (.inr false))
 else
  chk ((-9223372036854775808 ≤ (v2 + 1 : Int) ∧ (v2 + 1 : Int) ≤ 9223372036854775807)) <|
  some (.inl (y10.1, y10.2.1, v2 + 1))
 else
  some (.inr (.inl ()))) (a_0, a_1, 1)).bind fun z => match z with
  | .inl _ => (some true)
  | .inr rr => some rr
 else
  some false

end Go.SH
