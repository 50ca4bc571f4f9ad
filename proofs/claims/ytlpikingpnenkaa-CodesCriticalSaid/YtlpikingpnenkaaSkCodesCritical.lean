/-
  Functions of the program as plain functions: rotakeep_CodesCritical. By a program of mine (shal.py). Conditions: none.
-/
import Derived.Test.YtlpikingpnenkaaAxN
import Derived.Test.YtlpikingpnenkaaSp
import Derived.Test.YtlpikingpnenkaaSprotakeep
set_option linter.unusedVariables false
set_option linter.unusedSimpArgs false
namespace Go.SH
open Go Go.AX

noncomputable def rotakeep_CodesCritical (x_0 : Int) (x_1 : Int) (x_2 : List (List Int)) : Option (Bool) :=
  (codes_Critical 2 1 [[1]]).bind fun y =>
  if (y.2 ≠ 0 ∨ y.1 ≠ 1) then
  some false
 else
  (codes_Critical x_0 x_1 x_2).bind fun y1 =>
  (kinds_Linear x_0 x_1 x_2).bind fun y2 =>
  if (y2.2.2 ≠ 0 ∨ y1.2 = 2) then
  some (decide (y1.1 = 0))
 else
  (flats_Characteristic y2.1 y2.2.1).bind fun y3 =>
  if y3.2 ≠ 0 then
  some false
 else
  if y1.2 = 5 then
  (slices_ContainsFunc_int64_int64 y3.1 (fun x0 => rotakeep_CodesCritical_1 x0)).bind fun y4 =>
  some (decide ((¬ (y4 = true) ∧ y1.1 = 0)))
 else
  (loopM (ρ := Unit ⊕ Bool) (fun ((v, v1) : Int × Int) =>
  if v1 ≤ y1.1 then
  (rotakeep_value y3.1 v).bind fun y5 =>
  (rotabig_Int_Sign y5.1 y5.2).bind fun y6 =>
  if ¬ (y6 ≠ 0 ↔ v1 = y1.1) then
  some (.inr (.inr false))
 else
  chk ((-9223372036854775808 ≤ (v * x_0 : Int) ∧ (v * x_0 : Int) ≤ 9223372036854775807)) <|
  chk ((-9223372036854775808 ≤ (v1 + 1 : Int) ∧ (v1 + 1 : Int) ≤ 9223372036854775807)) <|
  some (.inl (v * x_0, v1 + 1))
 else
  some (.inr (.inl ()))) (1, 0)).bind fun z => match z with
  | .inl _ => (some (decide (y1.2 = 0)))
  | .inr rr => some rr

end Go.SH
