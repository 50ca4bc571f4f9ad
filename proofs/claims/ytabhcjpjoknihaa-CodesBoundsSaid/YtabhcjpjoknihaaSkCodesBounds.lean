/-
  Functions of the program as plain functions: rotakeep_CodesBounds. By a program of mine (shal.py). Conditions: none.
-/
import Derived.Test.YtabhcjpjoknihaaAxN
import Derived.Test.YtabhcjpjoknihaaSp
import Derived.Test.YtabhcjpjoknihaaSprotakeep
import Derived.Test.YtabhcjpjoknihaaSprotaref
set_option linter.unusedVariables false
set_option linter.unusedSimpArgs false
namespace Go.SH
open Go Go.AX

noncomputable def rotakeep_CodesBounds (x_0 : Int) (x_1 : Int) (x_2 : List (List Int)) : Option (Bool) :=
  (codes_Distance 3 2 [[1, 2]]).bind fun y =>
  if (y.2 ≠ 0 ∨ y.1 ≠ 2) then
  some false
 else
  (codes_Distance x_0 x_1 x_2).bind fun y1 =>
  if y1.2 ≠ 0 then
  some (decide (y1.1 = 0))
 else
  (field_Rank x_0 x_1 x_2).bind fun y2 =>
  (rotakeep_power x_0 y2.1).bind fun y3 =>
  (loopM (ρ := Int) (fun ((v, v1) : Int × Int) =>
  chk ((-9223372036854775808 ≤ (y1.1 - 1 : Int) ∧ (y1.1 - 1 : Int) ≤ 9223372036854775807) ∧ (-9223372036854775808 ≤ (Int.tdiv (y1.1 - 1) 2 : Int) ∧ (Int.tdiv (y1.1 - 1) 2 : Int) ≤ 9223372036854775807)) <|
  if v1 ≤ Int.tdiv (y1.1 - 1) 2 then
  (rotakeep_over x_1 v1).bind fun y4 =>
  chk ((-9223372036854775808 ≤ (x_0 - 1 : Int) ∧ (x_0 - 1 : Int) ≤ 9223372036854775807)) <|
  (rotakeep_power (x_0 - 1) v1).bind fun y5 =>
  chk ((-9223372036854775808 ≤ (y4 * y5 : Int) ∧ (y4 * y5 : Int) ≤ 9223372036854775807) ∧ (-9223372036854775808 ≤ (v + (y4 * y5) : Int) ∧ (v + (y4 * y5) : Int) ≤ 9223372036854775807)) <|
  chk ((-9223372036854775808 ≤ (v1 + 1 : Int) ∧ (v1 + 1 : Int) ≤ 9223372036854775807)) <|
  some (.inl (v + (y4 * y5), v1 + 1))
 else
  some (.inr v)) (0, 0)).bind fun (v2 : Int) =>
  (loopM (ρ := Int) (fun ((v3, v4) : Int × Int) =>
  if v4 < y2.1 then
  (rotakeep_power x_0 v4).bind fun y6 =>
  (rotaref_Up y1.1 y6).bind fun y7 =>
  chk ((-9223372036854775808 ≤ (v3 + y7 : Int) ∧ (v3 + y7 : Int) ≤ 9223372036854775807)) <|
  chk ((-9223372036854775808 ≤ (v4 + 1 : Int) ∧ (v4 + 1 : Int) ≤ 9223372036854775807)) <|
  some (.inl (v3 + y7, v4 + 1))
 else
  some (.inr v3)) (0, 0)).bind fun (v5 : Int) =>
  chk (((y2.2 = 0) → (-9223372036854775808 ≤ (v2 * y3 : Int) ∧ (v2 * y3 : Int) ≤ 9223372036854775807))) <|
  (if y2.2 = 0 then rotakeep_power x_0 x_1 else some 0).bind fun y8 =>
  chk ((((y2.2 = 0 ∧ v2 * y3 ≤ y8) ∧ v5 ≤ x_1) → (-9223372036854775808 ≤ (y3 - 1 : Int) ∧ (y3 - 1 : Int) ≤ 9223372036854775807)) ∧ (((y2.2 = 0 ∧ v2 * y3 ≤ y8) ∧ v5 ≤ x_1) → (-9223372036854775808 ≤ (y1.1 * (y3 - 1) : Int) ∧ (y1.1 * (y3 - 1) : Int) ≤ 9223372036854775807)) ∧ (((y2.2 = 0 ∧ v2 * y3 ≤ y8) ∧ v5 ≤ x_1) → (-9223372036854775808 ≤ (x_0 - 1 : Int) ∧ (x_0 - 1 : Int) ≤ 9223372036854775807)) ∧ (((y2.2 = 0 ∧ v2 * y3 ≤ y8) ∧ v5 ≤ x_1) → (-9223372036854775808 ≤ (x_1 * (x_0 - 1) : Int) ∧ (x_1 * (x_0 - 1) : Int) ≤ 9223372036854775807)) ∧ (((y2.2 = 0 ∧ v2 * y3 ≤ y8) ∧ v5 ≤ x_1) → (-9223372036854775808 ≤ ((x_1 * (x_0 - 1)) * y3 : Int) ∧ ((x_1 * (x_0 - 1)) * y3 : Int) ≤ 9223372036854775807)) ∧ (((y2.2 = 0 ∧ v2 * y3 ≤ y8) ∧ v5 ≤ x_1) → x_0 ≠ 0) ∧ (((y2.2 = 0 ∧ v2 * y3 ≤ y8) ∧ v5 ≤ x_1) → (-9223372036854775808 ≤ (Int.tdiv ((x_1 * (x_0 - 1)) * y3) x_0 : Int) ∧ (Int.tdiv ((x_1 * (x_0 - 1)) * y3) x_0 : Int) ≤ 9223372036854775807))) <|
  some (decide ((((y2.2 = 0 ∧ v2 * y3 ≤ y8) ∧ v5 ≤ x_1) ∧ y1.1 * (y3 - 1) ≤ Int.tdiv ((x_1 * (x_0 - 1)) * y3) x_0)))

end Go.SH
