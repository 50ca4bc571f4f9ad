/-
  Functions of the program as plain functions: rotakeep_SameChain. By a program of mine (shal.py). Conditions: none.
-/
import Derived.Test.YthofnmjokdjppaaAxN
import Derived.Test.YthofnmjokdjppaaSprotakeep
import Derived.Test.YthofnmjokdjppaaSpsame
set_option linter.unusedVariables false
set_option linter.unusedSimpArgs false
namespace Go.SH
open Go Go.AX

noncomputable def rotakeep_SameChain (a_0 : Int) (a_1 : List Int) (b_0 : Int) (b_1 : List Int) (c_0 : Int) (c_1 : List Int) : Option (Bool) :=
  (rotakeep_two).bind fun y =>
  (same_Minor 1 [1] y.1 y.2).bind fun y1 =>
  if y1.2.2 ≠ 5 then
  some false
 else
  (same_Minor a_0 a_1 b_0 b_1).bind fun y2 =>
  (same_Minor b_0 b_1 c_0 c_1).bind fun y3 =>
  (same_Minor a_0 a_1 c_0 c_1).bind fun y4 =>
  some (decide (((y2.2.2 ≠ 0 ∨ y3.2.2 ≠ 0) ∨ y4.2.2 = 0)))

end Go.SH
