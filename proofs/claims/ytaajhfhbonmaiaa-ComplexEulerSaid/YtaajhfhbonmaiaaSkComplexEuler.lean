/-
  Functions of the program as plain functions: rotakeep_ComplexEuler. By a program of mine (shal.py). Conditions: none.
-/
import Derived.Test.YtaajhfhbonmaiaaAxN
import Derived.Test.YtaajhfhbonmaiaaSpcomplex
import Derived.Test.YtaajhfhbonmaiaaSprotalaw
import Derived.Test.YtaajhfhbonmaiaaSpslices
set_option linter.unusedVariables false
set_option linter.unusedSimpArgs false
namespace Go.SH
open Go Go.AX

noncomputable def rotakeep_ComplexEuler (n : Int) (a1 : List Int) (a2 : Int) : Option (Bool) :=
  (complex_H 2 [1, 2]).bind fun y =>
  if ¬ (y.2 ≠ 0) then
  (rotalaw_Same_int y.1 [1, 1]).bind fun y1 =>
  if ¬ (y1 = true) then
  some false
 else
  (complex_F n a1).bind fun y2 =>
  (complex_H n a1).bind fun y3 =>
  (complex_Euler n a1).bind fun y4 =>
  if y2.2 ≠ 0 then
  chk (((y2.2 = y3.2 ∧ y3.2 = y4.2) → (-9223372036854775808 ≤ ((y2.1.length : Int) + (y3.1.length : Int) : Int) ∧ ((y2.1.length : Int) + (y3.1.length : Int) : Int) ≤ 9223372036854775807))) <|
  some (decide ((((y2.2 = y3.2 ∧ y3.2 = y4.2) ∧ (y2.1.length : Int) + (y3.1.length : Int) = 0) ∧ y4.1 = 0)))
 else
  (loopM (ρ := Int) (fun ((v, v1) : Int × Int) =>
  if v1 < (y3.1.length : Int) then
  chk ((0 ≤ v1 ∧ v1 < y3.1.length)) <|
  chk ((-9223372036854775808 ≤ (v + (y3.1.getD v1.toNat 0) : Int) ∧ (v + (y3.1.getD v1.toNat 0) : Int) ≤ 9223372036854775807)) <|
  some (.inl (v + (y3.1.getD v1.toNat 0), v1 + 1))
 else
  some (.inr v)) (0, 0)).bind fun (v2 : Int) =>
  chk ((-9223372036854775808 ≤ ((y2.1.length : Int) - 1 : Int) ∧ ((y2.1.length : Int) - 1 : Int) ≤ 9223372036854775807)) <|
  chk (((¬ (((y3.2 ≠ 0 ∨ y4.2 ≠ 0) ∨ (y3.1.length : Int) ≠ (y2.1.length : Int)))) → (0 ≤ (y2.1.length : Int) - 1 ∧ (y2.1.length : Int) - 1 < y2.1.length)) ∧ ((¬ ((((y3.2 ≠ 0 ∨ y4.2 ≠ 0) ∨ (y3.1.length : Int) ≠ (y2.1.length : Int)) ∨ v2 ≠ y2.1.getD ((y2.1.length : Int) - 1).toNat 0))) → (0 ≤ 0 ∧ 0 < y3.1.length)) ∧ ((¬ (((((y3.2 ≠ 0 ∨ y4.2 ≠ 0) ∨ (y3.1.length : Int) ≠ (y2.1.length : Int)) ∨ v2 ≠ y2.1.getD ((y2.1.length : Int) - 1).toNat 0) ∨ y3.1.getD 0 0 ≠ 1))) → (0 ≤ (y2.1.length : Int) - 1 ∧ (y2.1.length : Int) - 1 < y3.1.length)) ∧ ((¬ (((((y3.2 ≠ 0 ∨ y4.2 ≠ 0) ∨ (y3.1.length : Int) ≠ (y2.1.length : Int)) ∨ v2 ≠ y2.1.getD ((y2.1.length : Int) - 1).toNat 0) ∨ y3.1.getD 0 0 ≠ 1))) → (-9223372036854775808 ≤ (2 * (Int.tmod ((y2.1.length : Int) - 1) 2) : Int) ∧ (2 * (Int.tmod ((y2.1.length : Int) - 1) 2) : Int) ≤ 9223372036854775807)) ∧ ((¬ (((((y3.2 ≠ 0 ∨ y4.2 ≠ 0) ∨ (y3.1.length : Int) ≠ (y2.1.length : Int)) ∨ v2 ≠ y2.1.getD ((y2.1.length : Int) - 1).toNat 0) ∨ y3.1.getD 0 0 ≠ 1))) → (-9223372036854775808 ≤ (1 - (2 * (Int.tmod ((y2.1.length : Int) - 1) 2)) : Int) ∧ (1 - (2 * (Int.tmod ((y2.1.length : Int) - 1) 2)) : Int) ≤ 9223372036854775807)) ∧ ((¬ (((((y3.2 ≠ 0 ∨ y4.2 ≠ 0) ∨ (y3.1.length : Int) ≠ (y2.1.length : Int)) ∨ v2 ≠ y2.1.getD ((y2.1.length : Int) - 1).toNat 0) ∨ y3.1.getD 0 0 ≠ 1))) → (-9223372036854775808 ≤ (y4.1 * (1 - (2 * (Int.tmod ((y2.1.length : Int) - 1) 2))) : Int) ∧ (y4.1 * (1 - (2 * (Int.tmod ((y2.1.length : Int) - 1) 2))) : Int) ≤ 9223372036854775807))) <|
  if (((((y3.2 ≠ 0 ∨ y4.2 ≠ 0) ∨ (y3.1.length : Int) ≠ (y2.1.length : Int)) ∨ v2 ≠ y2.1.getD ((y2.1.length : Int) - 1).toNat 0) ∨ y3.1.getD 0 0 ≠ 1) ∨ y3.1.getD ((y2.1.length : Int) - 1).toNat 0 ≠ y4.1 * (1 - (2 * (Int.tmod ((y2.1.length : Int) - 1) 2)))) then
  some false
 else
  (complex_Dual n a1).bind fun y5 =>
  joinM (fun (_ : Unit) =>
  (complex_Link n a1 a2).bind fun y9 =>
  if y9.2 ≠ 0 then
  some (decide ((y9.1.length : Int) = 0))
 else
  (complex_Check n y9.1).bind fun y10 =>
  if y10 ≠ 0 then
  some false
 else
  (complex_Faces n a1).bind fun y11 =>
  (complex_Faces n y9.1).bind fun y12 =>
  (loopM (ρ := Unit ⊕ Bool) (fun (v3 : Int) =>
  if v3 < (y12.1.length : Int) then
  chk ((0 ≤ v3 ∧ v3 < y12.1.length)) <|
  (if ¬ (iand (y12.1.getD v3.toNat 0) a2 ≠ 0) then slices_Contains_int_int y11.1 (ior (y12.1.getD v3.toNat 0) a2) else some false).bind fun y13 =>
  if (iand (y12.1.getD v3.toNat 0) a2 ≠ 0 ∨ ¬ (y13 = true)) then
  some (.inr (.inr false))
 else
  some (.inl (v3 + 1))
 else
  some (.inr (.inl ()))) 0).bind fun z => match z with
  | .inl _ => (some (decide ((y11.2 = 0 ∧ y12.2 = 0))))
  | .inr rr => some rr) fun j =>
  if y5.2 = 0 then
  (complex_Dual n y5.1).bind fun y6 =>
  (complex_Euler n y5.1).bind fun y7 =>
  (if ¬ ((y6.2 ≠ 0 ∨ y7.2 ≠ 0)) then rotalaw_Same_int y6.1 a1 else some false).bind fun y8 =>
  chk (((¬ (((y6.2 ≠ 0 ∨ y7.2 ≠ 0) ∨ ¬ (y8 = true)))) → (-9223372036854775808 ≤ (2 * (Int.tmod n 2) : Int) ∧ (2 * (Int.tmod n 2) : Int) ≤ 9223372036854775807)) ∧ ((¬ (((y6.2 ≠ 0 ∨ y7.2 ≠ 0) ∨ ¬ (y8 = true)))) → (-9223372036854775808 ≤ (1 - (2 * (Int.tmod n 2)) : Int) ∧ (1 - (2 * (Int.tmod n 2)) : Int) ≤ 9223372036854775807)) ∧ ((¬ (((y6.2 ≠ 0 ∨ y7.2 ≠ 0) ∨ ¬ (y8 = true)))) → (-9223372036854775808 ≤ (y4.1 * (1 - (2 * (Int.tmod n 2))) : Int) ∧ (y4.1 * (1 - (2 * (Int.tmod n 2))) : Int) ≤ 9223372036854775807)) ∧ ((¬ (((y6.2 ≠ 0 ∨ y7.2 ≠ 0) ∨ ¬ (y8 = true)))) → (-9223372036854775808 ≤ (-y7.1 : Int) ∧ (-y7.1 : Int) ≤ 9223372036854775807))) <|
  if (((y6.2 ≠ 0 ∨ y7.2 ≠ 0) ∨ ¬ (y8 = true)) ∨ y4.1 * (1 - (2 * (Int.tmod n 2))) ≠ -y7.1) then
  some false
 else
  j ()
 else
  j ()
 else
  some false

end Go.SH
