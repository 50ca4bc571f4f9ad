/-
  Functions of the program as plain functions: minors_Relax. By a program of mine (shal.py). Conditions: none.
-/
import Derived.Test.YtkjfccdfmjnkbaaAxN
import Derived.Test.YtkjfccdfmjnkbaaSpaxioms
import Derived.Test.YtkjfccdfmjnkbaaSpminors
import Derived.Test.YtkjfccdfmjnkbaaSpslices
set_option linter.unusedVariables false
set_option linter.unusedSimpArgs false
namespace Go.SH
open Go Go.AX

noncomputable def minors_Relax (m_0 : Int) (m_1 : List Int) (s : Int) : Option (Int × List Int × Int) :=
  (minors_right m_0 m_1 s).bind fun y =>
  if y ≠ 0 then
  some (0, [], y)
 else
  (axioms_Circuits m_0 m_1).bind fun y1 =>
  (axioms_Hyperplanes m_0 m_1).bind fun y2 =>
  (slices_Contains_int_int y1.1 s).bind fun y3 =>
  (if ¬ (¬ (y3 = true)) then slices_Contains_int_int y2.1 s else some false).bind fun y4 =>
  if (¬ (y3 = true) ∨ ¬ (y4 = true)) then
  some (0, [], 3)
 else
  chk ((m_1.length ≤ 17592186044416)) <|
  chk (((m_1 ++ [s]).length ≤ 8796093022208)) <|
  (minors_made m_0 (m_1 ++ [s])).bind fun y5 =>
  some (y5.1, y5.2, 0)

end Go.SH
