/-
  Functions of the program as plain functions: rotakeep_JoinPacks. By a program of mine (shal.py). Conditions: none.
-/
import Derived.Test.YtkjfccdfmjnkbaaAxN
import Derived.Test.YtkjfccdfmjnkbaaSpaxioms
import Derived.Test.YtkjfccdfmjnkbaaSpjoin
import Derived.Test.YtkjfccdfmjnkbaaSprotakeep
import Derived.Test.YtkjfccdfmjnkbaaSprotalaw
import Derived.Test.YtkjfccdfmjnkbaaSprotaref
import Derived.Test.YtkjfccdfmjnkbaaSpslices
set_option linter.unusedVariables false
set_option linter.unusedSimpArgs false
namespace Go.SH
open Go Go.AX

noncomputable def rotakeep_JoinPacks (m_0 : Int) (m_1 : List Int) : Option (Bool) :=
  (rotakeep_two).bind fun y =>
  (join_Pack y.1 y.2).bind fun y1 =>
  if ¬ (y1.2 ≠ 0) then
  (rotalaw_Same_int y1.1 [3, 12]).bind fun y2 =>
  if ¬ (y2 = true) then
  some false
 else
  (join_Pack m_0 m_1).bind fun y3 =>
  (join_Weak m_0 m_1).bind fun y4 =>
  if y3.2 ≠ 0 then
  some (decide ((((y3.1.length : Int) = 0 ∧ y4.1 = 0) ∧ y4.2 = y3.2)))
 else
  (axioms_Ranks m_0 m_1).bind fun y5 =>
  if (y4.2 ≠ 0 ∨ y5.2 ≠ 0) then
  some false
 else
  (loopM (ρ := Unit ⊕ Bool) (fun ((v, v1) : Int × Int) =>
  if v1 < (y3.1.length : Int) then
  chk ((0 ≤ v1 ∧ v1 < y3.1.length)) <|
  (if ¬ (iand v (y3.1.getD v1.toNat 0) ≠ 0) then slices_Contains_int_int m_1 (y3.1.getD v1.toNat 0) else some false).bind fun y6 =>
  if (iand v (y3.1.getD v1.toNat 0) ≠ 0 ∨ ¬ (y6 = true)) then
  some (.inr (.inr false))
 else
  some (.inl (ior v (y3.1.getD v1.toNat 0), v1 + 1))
 else
  some (.inr (.inl ()))) (0, 0)).bind fun z => match z with
  | .inl _ => ((rotaref_All m_0).bind fun y7 =>
  chk ((0 ≤ y4.1 ∧ y4.1 < y5.1.length) ∧ (0 ≤ y7 ∧ y7 < y5.1.length)) <|
  (if y5.1.getD y4.1.toNat 0 < y5.1.getD y7.toNat 0 then rotaref_Size y4.1 else some 0).bind fun y8 =>
  chk (((y5.1.getD y4.1.toNat 0 < y5.1.getD y7.toNat 0) → (-9223372036854775808 ≤ (m_0 - y8 : Int) ∧ (m_0 - y8 : Int) ≤ 9223372036854775807)) ∧ ((y5.1.getD y4.1.toNat 0 < y5.1.getD y7.toNat 0) → (0 ≤ y7 ∧ y7 < y5.1.length)) ∧ ((y5.1.getD y4.1.toNat 0 < y5.1.getD y7.toNat 0) → (0 ≤ y4.1 ∧ y4.1 < y5.1.length)) ∧ ((y5.1.getD y4.1.toNat 0 < y5.1.getD y7.toNat 0) → (-9223372036854775808 ≤ ((y5.1.getD y7.toNat 0) - (y5.1.getD y4.1.toNat 0) : Int) ∧ ((y5.1.getD y7.toNat 0) - (y5.1.getD y4.1.toNat 0) : Int) ≤ 9223372036854775807)) ∧ ((y5.1.getD y4.1.toNat 0 < y5.1.getD y7.toNat 0) → (y5.1.getD y7.toNat 0) - (y5.1.getD y4.1.toNat 0) ≠ 0) ∧ ((y5.1.getD y4.1.toNat 0 < y5.1.getD y7.toNat 0) → (-9223372036854775808 ≤ (Int.tdiv (m_0 - y8) ((y5.1.getD y7.toNat 0) - (y5.1.getD y4.1.toNat 0)) : Int) ∧ (Int.tdiv (m_0 - y8) ((y5.1.getD y7.toNat 0) - (y5.1.getD y4.1.toNat 0)) : Int) ≤ 9223372036854775807))) <|
  some (decide ((y5.1.getD y4.1.toNat 0 < y5.1.getD y7.toNat 0 ∧ (y3.1.length : Int) = Int.tdiv (m_0 - y8) ((y5.1.getD y7.toNat 0) - (y5.1.getD y4.1.toNat 0))))))
  | .inr rr => some rr
 else
  some false

end Go.SH
