/-
  Functions of the program as plain functions: rotakeep_CodesCritical_1, rotakeep_value. By a program of mine (shal.py). Conditions: none.
-/
import Derived.Test.YtlpikingpnenkaaAxN
import Derived.Test.YtlpikingpnenkaaSp
set_option linter.unusedVariables false
set_option linter.unusedSimpArgs false
namespace Go.SH
open Go Go.AX

noncomputable def rotakeep_CodesCritical_1 (n : Int) : Option (Bool) :=
  some (decide (n ≠ 0))

noncomputable def rotakeep_value (c : List Int) (at0 : Int) : Option (Bool × List Int) :=
  chk ((-9223372036854775808 ≤ ((c.length : Int) - 1 : Int) ∧ ((c.length : Int) - 1 : Int) ≤ 9223372036854775807)) <|
  (loopM (ρ := Bool × List Int) (fun ((sum, sum1, i) : Bool × List Int × Int) =>
  if 0 ≤ i then
  (rotabig_NewInt at0).bind fun y =>
  (rotabig_Int_Mul (sum, sum1) (y.1, y.2)).bind fun y1 =>
  chk ((0 ≤ i ∧ i < c.length)) <|
  (rotabig_NewInt (c.getD i.toNat 0)).bind fun y2 =>
  (rotabig_Int_Add (y1.1.1, y1.1.2) (y2.1, y2.2)).bind fun y3 =>
  chk ((-9223372036854775808 ≤ (i - 1 : Int) ∧ (i - 1 : Int) ≤ 9223372036854775807)) <|
  some (.inl (y3.1.1, y3.1.2, i - 1))
 else
  some (.inr (sum, sum1))) (false, [], (c.length : Int) - 1)).bind fun ((sum2, sum3) : Bool × List Int) =>
  some (sum2, sum3)

end Go.SH
