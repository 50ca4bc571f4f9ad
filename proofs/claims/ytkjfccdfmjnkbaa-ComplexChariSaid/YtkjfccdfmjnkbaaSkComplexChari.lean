/-
  Functions of the program as plain functions: rotakeep_ComplexChari. By a program of mine (shal.py). Conditions: none.
-/
import Derived.Test.YtkjfccdfmjnkbaaAxN
import Derived.Test.YtkjfccdfmjnkbaaSpaxioms
import Derived.Test.YtkjfccdfmjnkbaaSpcomplex
import Derived.Test.YtkjfccdfmjnkbaaSprotalaw
set_option linter.unusedVariables false
set_option linter.unusedSimpArgs false
namespace Go.SH
open Go Go.AX

noncomputable def rotakeep_ComplexChari (m_0 : Int) (m_1 : List Int) : Option (Bool) :=
  (complex_H 2 [3]).bind fun y =>
  if ¬ (y.2 ≠ 0) then
  (rotalaw_Same_int y.1 [1, 0, 0]).bind fun y1 =>
  if ¬ (y1 = true) then
  some false
 else
  (axioms_Check m_0 m_1).bind fun y2 =>
  if y2 ≠ 0 then
  some true
 else
  (complex_H m_0 m_1).bind fun y3 =>
  if y3.2 ≠ 0 then
  some false
 else
  chk ((-9223372036854775808 ≤ ((y3.1.length : Int) - 1 : Int) ∧ ((y3.1.length : Int) - 1 : Int) ≤ 9223372036854775807)) <|
  (loopM (ρ := Int) (fun (v : Int) =>
  chk (((0 < v) → (0 ≤ v ∧ v < y3.1.length))) <|
  if (0 < v ∧ y3.1.getD v.toNat 0 = 0) then
  chk ((-9223372036854775808 ≤ (v - 1 : Int) ∧ (v - 1 : Int) ≤ 9223372036854775807)) <|
  some (.inl (v - 1))
 else
  some (.inr v)) ((y3.1.length : Int) - 1)).bind fun (v1 : Int) =>
  (loopM (ρ := Unit ⊕ Bool) (fun (v2 : Int) =>
  chk ((-9223372036854775808 ≤ (Int.tdiv v1 2 : Int) ∧ (Int.tdiv v1 2 : Int) ≤ 9223372036854775807)) <|
  if v2 ≤ Int.tdiv v1 2 then
  chk ((0 ≤ v2 ∧ v2 < y3.1.length) ∧ (-9223372036854775808 ≤ (v1 - v2 : Int) ∧ (v1 - v2 : Int) ≤ 9223372036854775807) ∧ (0 ≤ v1 - v2 ∧ v1 - v2 < y3.1.length) ∧ (((¬ (y3.1.getD (v1 - v2).toNat 0 < y3.1.getD v2.toNat 0)) ∧ 0 < v2) → (-9223372036854775808 ≤ (v2 - 1 : Int) ∧ (v2 - 1 : Int) ≤ 9223372036854775807)) ∧ (((¬ (y3.1.getD (v1 - v2).toNat 0 < y3.1.getD v2.toNat 0)) ∧ 0 < v2) → (0 ≤ v2 - 1 ∧ v2 - 1 < y3.1.length)) ∧ (((¬ (y3.1.getD (v1 - v2).toNat 0 < y3.1.getD v2.toNat 0)) ∧ 0 < v2) → (0 ≤ v2 ∧ v2 < y3.1.length))) <|
  if (y3.1.getD (v1 - v2).toNat 0 < y3.1.getD v2.toNat 0 ∨ (0 < v2 ∧ y3.1.getD v2.toNat 0 < y3.1.getD (v2 - 1).toNat 0)) then
  some (.inr (.inr false))
 else
  chk ((-9223372036854775808 ≤ (v2 + 1 : Int) ∧ (v2 + 1 : Int) ≤ 9223372036854775807)) <|
  some (.inl (v2 + 1))
 else
  some (.inr (.inl ()))) 0).bind fun z => match z with
  | .inl _ => (some true)
  | .inr rr => some rr
 else
  some false

end Go.SH
