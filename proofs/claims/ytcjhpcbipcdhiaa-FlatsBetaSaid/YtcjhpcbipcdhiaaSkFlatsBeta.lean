/-
  Functions of the program as plain functions: rotakeep_FlatsBeta. By a program of mine (shal.py). Conditions: none.
-/
import Derived.Test.YtcjhpcbipcdhiaaAxN
import Derived.Test.YtcjhpcbipcdhiaaSpflats
import Derived.Test.YtcjhpcbipcdhiaaSpminors
import Derived.Test.YtcjhpcbipcdhiaaSprotalaw
set_option linter.unusedVariables false
set_option linter.unusedSimpArgs false
namespace Go.SH
open Go Go.AX

noncomputable def rotakeep_FlatsBeta (m_0 : Int) (m_1 : List Int) : Option (Bool) :=
  (flats_Characteristic 1 [1]).bind fun y =>
  if ¬ (y.2 ≠ 0) then
  (rotalaw_Same_int64 y.1 [(-1), 1]).bind fun y1 =>
  if ¬ (y1 = true) then
  some false
 else
  (flats_Characteristic m_0 m_1).bind fun y2 =>
  (minors_Components m_0 m_1).bind fun y3 =>
  if (y2.2 ≠ 0 ∨ m_0 < 2) then
  some (decide (y2.2 = y3.2))
 else
  (loopM (ρ := Int) (fun ((v, v1) : Int × Int) =>
  if v1 < (y2.1.length : Int) then
  chk ((0 ≤ v1 ∧ v1 < y2.1.length)) <|
  chk ((-9223372036854775808 ≤ (v1 * (y2.1.getD v1.toNat 0) : Int) ∧ (v1 * (y2.1.getD v1.toNat 0) : Int) ≤ 9223372036854775807) ∧ (-9223372036854775808 ≤ (v + (v1 * (y2.1.getD v1.toNat 0)) : Int) ∧ (v + (v1 * (y2.1.getD v1.toNat 0)) : Int) ≤ 9223372036854775807)) <|
  some (.inl (v + (v1 * (y2.1.getD v1.toNat 0)), v1 + 1))
 else
  some (.inr v)) (0, 0)).bind fun (v2 : Int) =>
  some (decide ((y3.2 = 0 ∧ (v2 ≠ 0 ↔ (y3.1.length : Int) = 1))))
 else
  some false

end Go.SH
