/-
  Functions of the program as plain functions: rotakeep_JoinCovers. By a program of mine (shal.py). Conditions: none.
-/
import Derived.Test.YtkjfccdfmjnkbaaAxN
import Derived.Test.YtkjfccdfmjnkbaaSpaxioms
import Derived.Test.YtkjfccdfmjnkbaaSpjoinc
import Derived.Test.YtkjfccdfmjnkbaaSprotakeep
import Derived.Test.YtkjfccdfmjnkbaaSprotaref
set_option linter.unusedVariables false
set_option linter.unusedSimpArgs false
namespace Go.SH
open Go Go.AX

noncomputable def rotakeep_JoinCovers (m_0 : Int) (m_1 : List Int) : Option (Bool) :=
  (rotakeep_two).bind fun y =>
  (join_Cover y.1 y.2).bind fun y1 =>
  if (y1.2 ≠ 0 ∨ (y1.1.length : Int) ≠ 2) then
  some false
 else
  (join_Cover m_0 m_1).bind fun y2 =>
  (join_Dense m_0 m_1).bind fun y3 =>
  if y2.2 ≠ 0 then
  some (decide ((((y2.1.length : Int) = 0 ∧ y3.1 = 0) ∧ y3.2 = y2.2)))
 else
  (axioms_Ranks m_0 m_1).bind fun y4 =>
  if (y3.2 ≠ 0 ∨ y4.2 ≠ 0) then
  some false
 else
  (loopM (ρ := Int ⊕ Bool) (fun ((v, v1) : Int × Int) =>
  if v1 < (y2.1.length : Int) then
  chk ((0 ≤ v1 ∧ v1 < y2.1.length)) <|
  chk (((¬ ((y2.1.getD v1.toNat 0 = 0 ∨ iand v (y2.1.getD v1.toNat 0) ≠ 0))) → (0 ≤ y2.1.getD v1.toNat 0 ∧ y2.1.getD v1.toNat 0 < y4.1.length))) <|
  (if ¬ ((y2.1.getD v1.toNat 0 = 0 ∨ iand v (y2.1.getD v1.toNat 0) ≠ 0)) then rotaref_Size (y2.1.getD v1.toNat 0) else some 0).bind fun y5 =>
  if ((y2.1.getD v1.toNat 0 = 0 ∨ iand v (y2.1.getD v1.toNat 0) ≠ 0) ∨ y4.1.getD (y2.1.getD v1.toNat 0).toNat 0 ≠ y5) then
  some (.inr (.inr false))
 else
  some (.inl (ior v (y2.1.getD v1.toNat 0), v1 + 1))
 else
  some (.inr (.inl v))) (0, 0)).bind fun z => match z with
  | .inl v2 => (if y3.1 = 0 then
  some (decide ((v2 = 0 ∧ m_0 = 0)))
 else
  (rotaref_All m_0).bind fun y6 =>
  (if v2 = y6 then rotaref_Size y3.1 else some 0).bind fun y7 =>
  chk (((v2 = y6) → (0 ≤ y3.1 ∧ y3.1 < y4.1.length))) <|
  (if v2 = y6 then rotaref_Up y7 (y4.1.getD y3.1.toNat 0) else some 0).bind fun y8 =>
  some (decide ((v2 = y6 ∧ (y2.1.length : Int) = y8))))
  | .inr rr => some rr

end Go.SH
