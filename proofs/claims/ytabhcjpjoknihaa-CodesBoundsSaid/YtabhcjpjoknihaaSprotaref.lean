/-
  Functions of the program as plain functions: rotaref_Up. By a program of mine (shal.py). Conditions: none.
-/
import Derived.Test.YtabhcjpjoknihaaAxN
set_option linter.unusedVariables false
set_option linter.unusedSimpArgs false
namespace Go.SH
open Go Go.AX

noncomputable def rotaref_Up (a : Int) (b : Int) : Option (Int) :=
  chk (b ≠ 0 ∧ (-9223372036854775808 ≤ (Int.tdiv a b : Int) ∧ (Int.tdiv a b : Int) ≤ 9223372036854775807)) <|
  chk ((-9223372036854775808 ≤ ((Int.tdiv a b) * b : Int) ∧ ((Int.tdiv a b) * b : Int) ≤ 9223372036854775807)) <|
  if (Int.tdiv a b) * b < a then
  chk ((-9223372036854775808 ≤ ((Int.tdiv a b) + 1 : Int) ∧ ((Int.tdiv a b) + 1 : Int) ≤ 9223372036854775807)) <|
  some ((Int.tdiv a b) + 1)
 else
  some (Int.tdiv a b)

end Go.SH
