/-
  Functions of the program as plain functions: rotakeep_ValuesWeights. By a program of mine (shal.py). Conditions: none.
-/
import Derived.Test.YtcjhpcbipcdhiaaAxN
import Derived.Test.YtcjhpcbipcdhiaaSpaxioms
import Derived.Test.YtcjhpcbipcdhiaaSpgreedy
import Derived.Test.YtcjhpcbipcdhiaaSpvalues
set_option linter.unusedVariables false
set_option linter.unusedSimpArgs false
namespace Go.SH
open Go Go.AX

noncomputable def rotakeep_ValuesWeights (m_0 : Int) (m_1 : List Int) (a1 : List Int) : Option (Bool) :=
  (values_Best 1 [(1, 0)] [2]).bind fun y =>
  if ((y.2.2 ≠ 0 ∨ y.1 ≠ 1) ∨ y.2.1 ≠ 2) then
  some false
 else
  (axioms_Check m_0 m_1).bind fun y1 =>
  if y1 ≠ 0 then
  some true
 else
  (loopM (ρ := List (Int × Int)) (fun ((v, v1) : (List (Int × Int)) × Int) =>
  if v1 < (m_1.length : Int) then
  chk ((0 ≤ v1 ∧ v1 < m_1.length)) <|
  chk (((v ++ [(m_1.getD v1.toNat 0, 0)]).length ≤ 8796093022208)) <|
  some (.inl (v ++ [(m_1.getD v1.toNat 0, 0)], v1 + 1))
 else
  some (.inr v)) ([], 0)).bind fun (v2 : List (Int × Int)) =>
  (values_Check m_0 v2).bind fun y2 =>
  if y2 ≠ 0 then
  some false
 else
  (values_Best m_0 v2 a1).bind fun y3 =>
  (greedy_Best m_0 m_1 a1).bind fun y4 =>
  some (decide ((y3.2.2 = y4.2.2 ∧ y3.2.1 = y4.2.1)))

end Go.SH
