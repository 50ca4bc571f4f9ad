/-
  Functions of the program as plain functions: slices_Clone_api_Edge_api_Edge. By a program of mine (shal.py). Conditions: none.
-/
import Derived.Test.YthofnmjokdjppaaAxN
set_option linter.unusedVariables false
set_option linter.unusedSimpArgs false
namespace Go.SH
open Go Go.AX

def slices_Clone_api_Edge_api_Edge (x : List (Int × Int)) : Option (List (Int × Int)) :=
  chk (x.length ≤ 8796093022208) <|
  some x

end Go.SH
