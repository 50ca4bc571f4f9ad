/-
  Functions of the program as plain functions: rotakeep_two, rotakeep_AxiomsStrong_1. By a program of mine (shal.py). Conditions: none.
-/
import Derived.Test.YtogmkocjidcmkaaAxN
import Derived.Test.YtogmkocjidcmkaaSprotaref
set_option linter.unusedVariables false
set_option linter.unusedSimpArgs false
namespace Go.SH
open Go Go.AX

noncomputable def rotakeep_two  : Option (Int × List Int) :=
  some (4, [3, 5, 6, 9, 10, 12])

noncomputable def rotakeep_AxiomsStrong_1 (z : Int) (c0 : Int) (c1 : Int) (c2 : Int) (c3 : Int) : Option (Bool) :=
  (rotaref_In z c0).bind fun y =>
  (if y = true then rotaref_In z c1 else some false).bind fun y1 =>
  (if (y = true ∧ ¬ (y1 = true)) then rotaref_Within z (ior c2 c3) else some false).bind fun y2 =>
  some (decide (((y = true ∧ ¬ (y1 = true)) ∧ y2 = true)))

end Go.SH
