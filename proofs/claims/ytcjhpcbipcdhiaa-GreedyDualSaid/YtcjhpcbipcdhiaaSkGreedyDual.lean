/-
  Functions of the program as plain functions: rotakeep_GreedyDual. By a program of mine (shal.py). Conditions: none.
-/
import Derived.Test.YtcjhpcbipcdhiaaAxN
import Derived.Test.YtcjhpcbipcdhiaaSpgreedy
import Derived.Test.YtcjhpcbipcdhiaaSpminors
set_option linter.unusedVariables false
set_option linter.unusedSimpArgs false
namespace Go.SH
open Go Go.AX

noncomputable def rotakeep_GreedyDual (m_0 : Int) (m_1 : List Int) (a1 : List Int) : Option (Bool) :=
  (greedy_Best 1 [1] [9]).bind fun y =>
  if ((y.2.2 ≠ 0 ∨ y.1 ≠ 1) ∨ y.2.1 ≠ 9) then
  some false
 else
  (greedy_Best m_0 m_1 a1).bind fun y1 =>
  if y1.2.2 ≠ 0 then
  some (decide (y1.2.1 = 0))
 else
  (minors_Dual m_0 m_1).bind fun y2 =>
  (loopM (ρ := List Int × Int) (fun ((v, v1, v2) : List Int × Int × Int) =>
  if v2 < (a1.length : Int) then
  chk ((0 ≤ v2 ∧ v2 < a1.length)) <|
  chk ((-9223372036854775808 ≤ (-(a1.getD v2.toNat 0) : Int) ∧ (-(a1.getD v2.toNat 0) : Int) ≤ 9223372036854775807) ∧ ((v ++ [-(a1.getD v2.toNat 0)]).length ≤ 8796093022208)) <|
  chk ((-9223372036854775808 ≤ (v1 + (a1.getD v2.toNat 0) : Int) ∧ (v1 + (a1.getD v2.toNat 0) : Int) ≤ 9223372036854775807)) <|
  some (.inl (v ++ [-(a1.getD v2.toNat 0)], v1 + (a1.getD v2.toNat 0), v2 + 1))
 else
  some (.inr (v, v1))) ([], 0, 0)).bind fun ((v3, v4) : List Int × Int) =>
  (greedy_Best y2.1 y2.2.1 v3).bind fun y3 =>
  chk (((y2.2.2 = 0 ∧ y3.2.2 = 0) → (-9223372036854775808 ≤ (y1.2.1 - y3.2.1 : Int) ∧ (y1.2.1 - y3.2.1 : Int) ≤ 9223372036854775807))) <|
  some (decide (((y2.2.2 = 0 ∧ y3.2.2 = 0) ∧ y1.2.1 - y3.2.1 = v4)))

end Go.SH
