/-
  Functions of the program as plain functions: rotaref_Pick, rotaref_All. By a program of mine (shal.py). Conditions: none.
-/
import Derived.Test.YtobpcecpfojpmaaDoorAxN
set_option linter.unusedVariables false
set_option linter.unusedSimpArgs false
namespace Go.SH
open Go Go.AX

noncomputable def rotaref_Pick (k : Int) (n : Int) : Option (Int) :=
  if k < 0 then
  chk ((-9223372036854775808 ≤ (-(k + 1) : Int) ∧ (-(k + 1) : Int) ≤ 9223372036854775807)) <|
  chk (n ≠ 0) <|
  some (Int.tmod (-(k + 1)) n)
 else
  chk (n ≠ 0) <|
  some (Int.tmod k n)

noncomputable def rotaref_All (n : Int) : Option (Int) :=
  chk ((0 ≤ n ∧ n ≤ 62) ∧ (-9223372036854775808 ≤ ((2 ^ n.toNat : Int) - 1 : Int) ∧ ((2 ^ n.toNat : Int) - 1 : Int) ≤ 9223372036854775807)) <|
  some ((2 ^ n.toNat : Int) - 1)

end Go.SH
