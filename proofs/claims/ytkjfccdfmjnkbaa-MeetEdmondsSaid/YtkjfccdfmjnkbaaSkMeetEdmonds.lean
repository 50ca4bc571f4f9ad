/-
  Functions of the program as plain functions: rotakeep_MeetEdmonds. By a program of mine (shal.py). Conditions: none.
-/
import Derived.Test.YtkjfccdfmjnkbaaAxN
import Derived.Test.YtkjfccdfmjnkbaaSpaxioms
import Derived.Test.YtkjfccdfmjnkbaaSpmeet
import Derived.Test.YtkjfccdfmjnkbaaSprotakeep
import Derived.Test.YtkjfccdfmjnkbaaSprotaref
set_option linter.unusedVariables false
set_option linter.unusedSimpArgs false
namespace Go.SH
open Go Go.AX

noncomputable def rotakeep_MeetEdmonds (a_0 : Int) (a_1 : List Int) (a1_0 : Int) (a1_1 : List Int) (a2 : List Int) : Option (Bool) :=
  (rotakeep_two).bind fun y =>
  (rotakeep_two).bind fun y1 =>
  (meet_Common y.1 y.2 y1.1 y1.2).bind fun y2 =>
  if ((y2.2.2 ≠ 0 ∨ y2.1 ≠ 3) ∨ y2.2.1 ≠ 0) then
  some false
 else
  (meet_Common a_0 a_1 a1_0 a1_1).bind fun y3 =>
  if y3.2.2 ≠ 0 then
  some (decide ((y3.1 = 0 ∧ y3.2.1 = 0)))
 else
  (axioms_Ranks a_0 a_1).bind fun y4 =>
  (axioms_Ranks a1_0 a1_1).bind fun y5 =>
  chk (((¬ ((y4.2 ≠ 0 ∨ y5.2 ≠ 0))) → (0 ≤ y3.1 ∧ y3.1 < y4.1.length))) <|
  (if ¬ ((y4.2 ≠ 0 ∨ y5.2 ≠ 0)) then rotaref_Size y3.1 else some 0).bind fun y6 =>
  chk (((¬ (((y4.2 ≠ 0 ∨ y5.2 ≠ 0) ∨ y4.1.getD y3.1.toNat 0 ≠ y6))) → (0 ≤ y3.1 ∧ y3.1 < y5.1.length))) <|
  (if ¬ (((y4.2 ≠ 0 ∨ y5.2 ≠ 0) ∨ y4.1.getD y3.1.toNat 0 ≠ y6)) then rotaref_Size y3.1 else some 0).bind fun y7 =>
  if (((y4.2 ≠ 0 ∨ y5.2 ≠ 0) ∨ y4.1.getD y3.1.toNat 0 ≠ y6) ∨ y5.1.getD y3.1.toNat 0 ≠ y7) then
  some false
 else
  (rotaref_All a_0).bind fun y8 =>
  (loopM (ρ := Unit ⊕ Bool) (fun (v : Int) =>
  if v < (y4.1.length : Int) then
  chk ((0 ≤ v ∧ v < y4.1.length) ∧ (0 ≤ iandnot y8 v ∧ iandnot y8 v < y5.1.length) ∧ (-9223372036854775808 ≤ ((y4.1.getD v.toNat 0) + (y5.1.getD (iandnot y8 v).toNat 0) : Int) ∧ ((y4.1.getD v.toNat 0) + (y5.1.getD (iandnot y8 v).toNat 0) : Int) ≤ 9223372036854775807)) <|
  (rotaref_Size y3.1).bind fun y9 =>
  if (y4.1.getD v.toNat 0) + (y5.1.getD (iandnot y8 v).toNat 0) < y9 then
  some (.inr (.inr false))
 else
  some (.inl (v + 1))
 else
  some (.inr (.inl ()))) 0).bind fun z => match z with
  | .inl _ => (chk ((0 ≤ y3.2.1 ∧ y3.2.1 < y4.1.length) ∧ (0 ≤ iandnot y8 y3.2.1 ∧ iandnot y8 y3.2.1 < y5.1.length) ∧ (-9223372036854775808 ≤ ((y4.1.getD y3.2.1.toNat 0) + (y5.1.getD (iandnot y8 y3.2.1).toNat 0) : Int) ∧ ((y4.1.getD y3.2.1.toNat 0) + (y5.1.getD (iandnot y8 y3.2.1).toNat 0) : Int) ≤ 9223372036854775807)) <|
  (rotaref_Size y3.1).bind fun y10 =>
  if (y4.1.getD y3.2.1.toNat 0) + (y5.1.getD (iandnot y8 y3.2.1).toNat 0) ≠ y10 then
  some false
 else
  (meet_Heaviest a_0 a_1 a1_0 a1_1 a2).bind fun y11 =>
  if y11.2 ≠ 0 then
  some (decide ((y11.1.length : Int) = 0))
 else
  (loopM (ρ := Unit ⊕ Bool) (fun (v1 : Int) =>
  if v1 < (y11.1.length : Int) then
  chk ((0 ≤ v1 ∧ v1 < y11.1.length)) <|
  (rotaref_Weighs a2 (y11.1.getD v1.toNat 0)).bind fun y12 =>
  chk ((-9223372036854775808 ≤ (v1 - 1 : Int) ∧ (v1 - 1 : Int) ≤ 9223372036854775807) ∧ (0 ≤ v1 - 1 ∧ v1 - 1 < y11.1.length)) <|
  (rotaref_Weighs a2 (y11.1.getD (v1 - 1).toNat 0)).bind fun y13 =>
  chk ((-9223372036854775808 ≤ (y12 - y13 : Int) ∧ (y12 - y13 : Int) ≤ 9223372036854775807) ∧ (-9223372036854775808 ≤ (v1 - 1 : Int) ∧ (v1 - 1 : Int) ≤ 9223372036854775807) ∧ (0 ≤ v1 - 1 ∧ v1 - 1 < y11.1.length)) <|
  (rotaref_Weighs a2 (y11.1.getD (v1 - 1).toNat 0)).bind fun y14 =>
  chk ((-9223372036854775808 ≤ (v1 - 2 : Int) ∧ (v1 - 2 : Int) ≤ 9223372036854775807) ∧ (0 ≤ v1 - 2 ∧ v1 - 2 < y11.1.length)) <|
  (rotaref_Weighs a2 (y11.1.getD (v1 - 2).toNat 0)).bind fun y15 =>
  chk ((-9223372036854775808 ≤ (y14 - y15 : Int) ∧ (y14 - y15 : Int) ≤ 9223372036854775807)) <|
  if y14 - y15 < y12 - y13 then
  some (.inr (.inr false))
 else
  some (.inl (v1 + 1))
 else
  some (.inr (.inl ()))) 2).bind fun z => match z with
  | .inl _ => ((rotaref_Size y3.1).bind fun y16 =>
  chk ((-9223372036854775808 ≤ (y16 + 1 : Int) ∧ (y16 + 1 : Int) ≤ 9223372036854775807)) <|
  some (decide ((y11.1.length : Int) = y16 + 1)))
  | .inr rr => some rr)
  | .inr rr => some rr

end Go.SH
