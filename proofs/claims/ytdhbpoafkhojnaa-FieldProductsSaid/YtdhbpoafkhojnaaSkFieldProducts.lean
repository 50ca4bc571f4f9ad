/-
  Functions of the program as plain functions: rotakeep_FieldProducts. By a program of mine (shal.py). Conditions: none.
-/
import Derived.Test.YtdhbpoafkhojnaaAxN
import Derived.Test.YtdhbpoafkhojnaaSpfieldd
import Derived.Test.YtdhbpoafkhojnaaSp
import Derived.Test.YtdhbpoafkhojnaaSprotaref
set_option linter.unusedVariables false
set_option linter.unusedSimpArgs false
namespace Go.SH
open Go Go.AX

noncomputable def rotakeep_FieldProducts (x_0 : Int) (x_1 : Int) (x_2 : List (List Int)) (a1_0 : Int) (a1_1 : Int) (a1_2 : List (List Int)) : Option (Bool) :=
  (field_Determinant 3 1 [[2]]).bind fun y =>
  if (y.2 ≠ 0 ∨ y.1 ≠ 2) then
  some false
 else
  (field_Times x_0 x_1 x_2 a1_0 a1_1 a1_2).bind fun y1 =>
  if y1.2.2.2 ≠ 0 then
  some (decide ((y1.2.2.1.length : Int) = 0))
 else
  joinM (fun (_ : Unit) =>
  (field_Determinant y1.1 y1.2.1 y1.2.2.1).bind fun y5 =>
  if y5.2 ≠ 0 then
  some (decide (y5.2 = 3))
 else
  chk ((0 ≤ x_1 ∧ x_1 ≤ 62)) <|
  (loopM (ρ := Int ⊕ Bool) (fun ((v, v1) : Int × Int) =>
  if v1 < (2 ^ x_1.toNat : Int) then
  (rotaref_Size v1).bind fun y6 =>
  if y6 ≠ (x_2.length : Int) then
  chk ((-9223372036854775808 ≤ (v1 + 1 : Int) ∧ (v1 + 1 : Int) ≤ 9223372036854775807)) <|
  some (.inl (v, v1 + 1))
 else
  (loopM (ρ := List (List Int)) (fun ((v3, v4) : List (List Int) × Int) =>
  if v4 < (x_2.length : Int) then
  chk ((0 ≤ v4 ∧ v4 < x_2.length)) <|
  (rotaref_Elements v1).bind fun y7 =>
  (loopM (ρ := List Int) (fun ((v6, v7) : List Int × Int) =>
  if v7 < (y7.length : Int) then
  chk ((0 ≤ v7 ∧ v7 < y7.length)) <|
  chk ((0 ≤ y7.getD v7.toNat 0 ∧ y7.getD v7.toNat 0 < (x_2.getD v4.toNat []).length) ∧ ((v6 ++ [(x_2.getD v4.toNat []).getD (y7.getD v7.toNat 0).toNat 0]).length ≤ 8796093022208)) <|
  some (.inl (v6 ++ [(x_2.getD v4.toNat []).getD (y7.getD v7.toNat 0).toNat 0], v7 + 1))
 else
  some (.inr v6)) ([], 0)).bind fun (v8 : List Int) =>
  chk (((v3 ++ [v8]).length ≤ 1099511627776)) <|
  some (.inl (v3 ++ [v8], v4 + 1))
 else
  some (.inr v3)) (([] : List (List Int)), 0)).bind fun (v5 : List (List Int)) =>
  (rotaref_Elements v1).bind fun y8 =>
  (loopM (ρ := List (List Int)) (fun ((v9, v10) : List (List Int) × Int) =>
  if v10 < (y8.length : Int) then
  chk ((0 ≤ v10 ∧ v10 < y8.length)) <|
  chk ((0 ≤ y8.getD v10.toNat 0 ∧ y8.getD v10.toNat 0 < a1_2.length)) <|
  chk (((a1_2.getD (y8.getD v10.toNat 0).toNat []).length ≤ 17592186044416)) <|
  chk (((v9 ++ [(a1_2.getD (y8.getD v10.toNat 0).toNat [])]).length ≤ 1099511627776)) <|
  some (.inl (v9 ++ [(a1_2.getD (y8.getD v10.toNat 0).toNat [])], v10 + 1))
 else
  some (.inr v9)) (([] : List (List Int)), 0)).bind fun (v11 : List (List Int)) =>
  (field_Determinant x_0 (x_2.length : Int) v5).bind fun y9 =>
  (field_Determinant x_0 (x_2.length : Int) v11).bind fun y10 =>
  if (y9.2 ≠ 0 ∨ y10.2 ≠ 0) then
  some (.inr (.inr false))
 else
  chk ((-9223372036854775808 ≤ (y9.1 * y10.1 : Int) ∧ (y9.1 * y10.1 : Int) ≤ 9223372036854775807) ∧ (-9223372036854775808 ≤ (v + (y9.1 * y10.1) : Int) ∧ (v + (y9.1 * y10.1) : Int) ≤ 9223372036854775807)) <|
  chk ((-9223372036854775808 ≤ (v1 + 1 : Int) ∧ (v1 + 1 : Int) ≤ 9223372036854775807)) <|
  some (.inl (v + (y9.1 * y10.1), v1 + 1))
 else
  some (.inr (.inl v))) (0, 0)).bind fun z => match z with
  | .inl v2 => (chk (x_0 ≠ 0) <|
  some (decide (Int.tmod v2 x_0 = y5.1)))
  | .inr rr => some rr) fun j =>
  (field_Determinant x_0 x_1 x_2).bind fun y2 =>
  if y2.2 = 0 then
  (field_Turned x_0 x_1 x_2).bind fun y3 =>
  (field_Determinant y3.1 y3.2.1 y3.2.2.1).bind fun y4 =>
  if ((y3.2.2.2 ≠ 0 ∨ y4.2 ≠ 0) ∨ y4.1 ≠ y2.1) then
  some false
 else
  j ()
 else
  j ()

end Go.SH
