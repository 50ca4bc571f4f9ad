/-
  Functions of the program as plain functions: rotakeep_MinorsTutte. By a program of mine (shal.py). Conditions: none.
-/
import Derived.Test.YtcjhpcbipcdhiaaAxN
import Derived.Test.YtcjhpcbipcdhiaaSpminors
import Derived.Test.YtcjhpcbipcdhiaaSprotakeep
import Derived.Test.YtcjhpcbipcdhiaaSprotalaw
set_option linter.unusedVariables false
set_option linter.unusedSimpArgs false
namespace Go.SH
open Go Go.AX

noncomputable def rotakeep_MinorsTutte (m_0 : Int) (m_1 : List Int) : Option (Bool) :=
  (rotakeep_two).bind fun y =>
  (minors_Contract y.1 y.2 1).bind fun y1 =>
  if ¬ (y1.2.2 ≠ 0) then
  (rotalaw_Same_int y1.2.1 [1, 2, 4]).bind fun y2 =>
  if ¬ (y2 = true) then
  some false
 else
  (minors_Components m_0 m_1).bind fun y3 =>
  if ((y3.2 ≠ 0 ∨ (y3.1.length : Int) ≠ 1) ∨ m_0 < 2) then
  some (decide ((y3.2 = 0 ∨ (y3.1.length : Int) = 0)))
 else
  (loopM (ρ := Unit ⊕ Bool) (fun (v : Int) =>
  if v < m_0 then
  chk ((0 ≤ v ∧ v ≤ 62)) <|
  (minors_Delete m_0 m_1 (2 ^ v.toNat : Int)).bind fun y4 =>
  chk ((0 ≤ v ∧ v ≤ 62)) <|
  (minors_Contract m_0 m_1 (2 ^ v.toNat : Int)).bind fun y5 =>
  (minors_Components y4.1 y4.2.1).bind fun y6 =>
  (minors_Components y5.1 y5.2.1).bind fun y7 =>
  if ((((y4.2.2 ≠ 0 ∨ y5.2.2 ≠ 0) ∨ y6.2 ≠ 0) ∨ y7.2 ≠ 0) ∨ (1 < (y6.1.length : Int) ∧ 1 < (y7.1.length : Int))) then
  some (.inr (.inr false))
 else
  some (.inl (v + 1))
 else
  some (.inr (.inl ()))) 0).bind fun z => match z with
  | .inl _ => (some true)
  | .inr rr => some rr
 else
  some false

end Go.SH
