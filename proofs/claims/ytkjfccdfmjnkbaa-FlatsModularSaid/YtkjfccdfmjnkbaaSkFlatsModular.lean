/-
  Functions of the program as plain functions: rotakeep_FlatsModular. By a program of mine (shal.py). Conditions: none.
-/
import Derived.Test.YtkjfccdfmjnkbaaAxN
import Derived.Test.YtkjfccdfmjnkbaaSpflats
import Derived.Test.YtkjfccdfmjnkbaaSpminors
import Derived.Test.YtkjfccdfmjnkbaaSprotakeep
import Derived.Test.YtkjfccdfmjnkbaaSprotaref
import Derived.Test.YtkjfccdfmjnkbaaSpslices
set_option linter.unusedVariables false
set_option linter.unusedSimpArgs false
namespace Go.SH
open Go Go.AX

noncomputable def rotakeep_FlatsModular (m_0 : Int) (m_1 : List Int) (a1 : Int) : Option (Bool) :=
  (rotakeep_two).bind fun y =>
  (flats_Modular y.1 y.2 15).bind fun y1 =>
  if (y1.2 ≠ 0 ∨ ¬ (y1.1 = true)) then
  some false
 else
  (flats_Modular m_0 m_1 a1).bind fun y2 =>
  if (y2.2 ≠ 0 ∨ ¬ (y2.1 = true)) then
  some (decide (¬ (y2.1 = true)))
 else
  (rotaref_All m_0).bind fun y3 =>
  (minors_Delete m_0 m_1 (iandnot y3 a1)).bind fun y4 =>
  (flats_Characteristic y4.1 y4.2.1).bind fun y5 =>
  (flats_Characteristic m_0 m_1).bind fun y6 =>
  if ((y4.2.2 ≠ 0 ∨ y5.2 ≠ 0) ∨ y6.2 ≠ 0) then
  some false
 else
  (slices_ContainsFunc_int64_int64 y6.1 (fun x0 => rotakeep_FlatsModular_1 x0)).bind fun y7 =>
  if ¬ (y7 = true) then
  some true
 else
  (slices_Clone_int64_int64 y6.1).bind fun y8 =>
  chk ((-9223372036854775808 ≤ ((y8.length : Int) - 1 : Int) ∧ ((y8.length : Int) - 1 : Int) ≤ 9223372036854775807)) <|
  (loopM (ρ := List Int) (fun ((v, v1) : List Int × Int) =>
  chk ((-9223372036854775808 ≤ ((y5.1.length : Int) - 1 : Int) ∧ ((y5.1.length : Int) - 1 : Int) ≤ 9223372036854775807)) <|
  if (y5.1.length : Int) - 1 ≤ v1 then
  chk ((0 ≤ v1 ∧ v1 < v.length)) <|
  (loopM (ρ := List Int) (fun ((v3, v4) : List Int × Int) =>
  if v4 < (y5.1.length : Int) then
  chk ((-9223372036854775808 ≤ (v1 - v4 : Int) ∧ (v1 - v4 : Int) ≤ 9223372036854775807) ∧ (0 ≤ v1 - v4 ∧ v1 - v4 < v3.length) ∧ (-9223372036854775808 ≤ ((y5.1.length : Int) - 1 : Int) ∧ ((y5.1.length : Int) - 1 : Int) ≤ 9223372036854775807) ∧ (-9223372036854775808 ≤ (((y5.1.length : Int) - 1) - v4 : Int) ∧ (((y5.1.length : Int) - 1) - v4 : Int) ≤ 9223372036854775807) ∧ (0 ≤ ((y5.1.length : Int) - 1) - v4 ∧ ((y5.1.length : Int) - 1) - v4 < y5.1.length) ∧ (-9223372036854775808 ≤ ((v.getD v1.toNat 0) * (y5.1.getD (((y5.1.length : Int) - 1) - v4).toNat 0) : Int) ∧ ((v.getD v1.toNat 0) * (y5.1.getD (((y5.1.length : Int) - 1) - v4).toNat 0) : Int) ≤ 9223372036854775807) ∧ (-9223372036854775808 ≤ ((v3.getD (v1 - v4).toNat 0) - ((v.getD v1.toNat 0) * (y5.1.getD (((y5.1.length : Int) - 1) - v4).toNat 0)) : Int) ∧ ((v3.getD (v1 - v4).toNat 0) - ((v.getD v1.toNat 0) * (y5.1.getD (((y5.1.length : Int) - 1) - v4).toNat 0)) : Int) ≤ 9223372036854775807)) <|
  some (.inl (v3.set (v1 - v4).toNat ((v3.getD (v1 - v4).toNat 0) - ((v.getD v1.toNat 0) * (y5.1.getD (((y5.1.length : Int) - 1) - v4).toNat 0))), v4 + 1))
 else
  some (.inr v3)) (v, 0)).bind fun (v5 : List Int) =>
  chk ((-9223372036854775808 ≤ (v1 - 1 : Int) ∧ (v1 - 1 : Int) ≤ 9223372036854775807)) <|
  some (.inl (v5, v1 - 1))
 else
  some (.inr v)) (y8, (y8.length : Int) - 1)).bind fun (v2 : List Int) =>
  (slices_ContainsFunc_int64_int64 v2 (fun x0 => rotakeep_FlatsModular_2 x0)).bind fun y9 =>
  some (decide (¬ (y9 = true)))

end Go.SH
