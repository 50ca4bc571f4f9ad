/-
  Functions of the program as plain functions: rotaref_In. By a program of mine (shal.py). Conditions: none.
-/
import Derived.Test.YthofnmjokdjppaaAxN
set_option linter.unusedVariables false
set_option linter.unusedSimpArgs false
namespace Go.SH
open Go Go.AX

noncomputable def rotaref_In (s : Int) (i : Int) : Option (Bool) :=
  chk (0 ≤ i) <|
  some (decide (Int.tmod (s / 2 ^ i.toNat) 2 = 1))

end Go.SH
