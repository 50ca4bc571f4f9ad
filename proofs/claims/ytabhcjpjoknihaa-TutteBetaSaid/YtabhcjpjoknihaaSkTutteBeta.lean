/-
  Functions of the program as plain functions: rotakeep_TutteBeta. By a program of mine (shal.py). Conditions: none.
-/
import Derived.Test.YtabhcjpjoknihaaAxN
import Derived.Test.YtabhcjpjoknihaaSp
import Derived.Test.YtabhcjpjoknihaaSprotakeep
set_option linter.unusedVariables false
set_option linter.unusedSimpArgs false
namespace Go.SH
open Go Go.AX

noncomputable def rotakeep_TutteBeta (m_0 : Int) (m_1 : List Int) : Option (Bool) :=
  (tutte_Polynomial 1 [1]).bind fun y =>
  chk (((¬ ((y.2 ≠ 0 ∨ (y.1.length : Int) ≠ 2))) → (0 ≤ 1 ∧ 1 < y.1.length)) ∧ ((¬ ((y.2 ≠ 0 ∨ (y.1.length : Int) ≠ 2))) → 0 < ((y.1.getD 1 []).length))) <|
  if ((y.2 ≠ 0 ∨ (y.1.length : Int) ≠ 2) ∨ (y.1.getD 1 []).getD 0 0 ≠ 1) then
  some false
 else
  (tutte_Polynomial m_0 m_1).bind fun y1 =>
  if (y1.2 ≠ 0 ∨ m_0 < 2) then
  some (decide ((y1.2 = 0 ∨ (y1.1.length : Int) = 0)))
 else
  joinM (fun (v : Int) =>
  joinM (fun (v1 : Int) =>
  (minors_Components m_0 m_1).bind fun y2 =>
  chk (((¬ ((y2.2 ≠ 0 ∨ v ≠ v1))) → (0 ≤ 0 ∧ 0 < y1.1.length)) ∧ ((¬ ((y2.2 ≠ 0 ∨ v ≠ v1))) → 0 < ((y1.1.getD 0 []).length))) <|
  if (((y2.2 ≠ 0 ∨ v ≠ v1) ∨ (y1.1.getD 0 []).getD 0 0 ≠ 0) ∨ ¬ (v ≠ 0 ↔ (y2.1.length : Int) = 1)) then
  some false
 else
  if ((y2.1.length : Int) ≠ 1 ∨ 6 < m_0) then
  some true
 else
  (kinds_Named ([107, 52] : List UInt8)).bind fun y3 =>
  (rotakeep_two).bind fun y4 =>
  (same_Minor m_0 m_1 y4.1 y4.2).bind fun y5 =>
  (same_Minor m_0 m_1 y3.1 y3.2.1).bind fun y6 =>
  some (decide ((v = 1 ↔ (y5.2.2 ≠ 0 ∧ y6.2.2 ≠ 0))))) fun j1 =>
  chk ((0 ≤ 0 ∧ 0 < y1.1.length)) <|
  if 1 < ((y1.1.getD 0 []).length : Int) then
  chk ((0 ≤ 0 ∧ 0 < y1.1.length) ∧ 1 < ((y1.1.getD 0 []).length)) <|
  j1 ((y1.1.getD 0 []).getD 1 0)
 else
  j1 0) fun j =>
  if 1 < (y1.1.length : Int) then
  chk ((0 ≤ 1 ∧ 1 < y1.1.length) ∧ 0 < ((y1.1.getD 1 []).length)) <|
  j ((y1.1.getD 1 []).getD 0 0)
 else
  j 0

end Go.SH
