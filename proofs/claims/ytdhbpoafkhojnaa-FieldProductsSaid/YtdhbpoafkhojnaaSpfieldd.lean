/-
  Functions of the program as plain functions: field_Determinant. By a program of mine (shal.py). Conditions: none.
-/
import Derived.Test.YtdhbpoafkhojnaaAxN
import Derived.Test.YtdhbpoafkhojnaaSp
set_option linter.unusedVariables false
set_option linter.unusedSimpArgs false
namespace Go.SH
open Go Go.AX

noncomputable def field_Determinant (x_0 : Int) (x_1 : Int) (x_2 : List (List Int)) : Option (Int × Int) :=
  (kinds_CheckMatrix x_0 x_1 x_2).bind fun y =>
  if y ≠ 0 then
  some (0, y)
 else
  if (x_2.length : Int) ≠ x_1 then
  some (0, 3)
 else
  (field_twin x_0 x_1 x_2).bind fun y1 =>
  (loopM (ρ := Int ⊕ (Int × Int)) (fun ((v, v1, v2) : List (List Int) × Int × Int) =>
  if v2 < y1.2.1 then
  (loopM (ρ := Int) (fun (v4 : Int) =>
  chk (((v4 < y1.2.1) → (0 ≤ v4 ∧ v4 < v.length)) ∧ ((v4 < y1.2.1) → (0 ≤ v2 ∧ v2 < ((v.getD v4.toNat []).length)))) <|
  if (v4 < y1.2.1 ∧ (v.getD v4.toNat []).getD v2.toNat 0 = 0) then
  chk ((-9223372036854775808 ≤ (v4 + 1 : Int) ∧ (v4 + 1 : Int) ≤ 9223372036854775807)) <|
  some (.inl (v4 + 1))
 else
  some (.inr v4)) v2).bind fun (v5 : Int) =>
  if v5 = y1.2.1 then
  some (.inr (.inr (0, 0)))
 else
  joinM (fun ((v6, v7) : List (List Int) × Int) =>
  chk ((0 ≤ v2 ∧ v2 < v6.length) ∧ (0 ≤ v2 ∧ v2 < ((v6.getD v2.toNat []).length)) ∧ (-9223372036854775808 ≤ (v7 * ((v6.getD v2.toNat []).getD v2.toNat 0) : Int) ∧ (v7 * ((v6.getD v2.toNat []).getD v2.toNat 0) : Int) ≤ 9223372036854775807) ∧ y1.1 ≠ 0) <|
  chk ((0 ≤ v2 ∧ v2 < v6.length) ∧ (0 ≤ v2 ∧ v2 < ((v6.getD v2.toNat []).length))) <|
  (field_inverse ((v6.getD v2.toNat []).getD v2.toNat 0) y1.1).bind fun y2 =>
  chk ((-9223372036854775808 ≤ (v2 + 1 : Int) ∧ (v2 + 1 : Int) ≤ 9223372036854775807)) <|
  (loopM (ρ := List (List Int)) (fun ((v8, v9) : List (List Int) × Int) =>
  if v9 < y1.2.1 then
  chk ((0 ≤ v9 ∧ v9 < v8.length) ∧ (0 ≤ v2 ∧ v2 < ((v8.getD v9.toNat []).length)) ∧ (-9223372036854775808 ≤ (((v8.getD v9.toNat []).getD v2.toNat 0) * y2 : Int) ∧ (((v8.getD v9.toNat []).getD v2.toNat 0) * y2 : Int) ≤ 9223372036854775807) ∧ y1.1 ≠ 0) <|
  (loopM (ρ := List (List Int)) (fun ((v11, v12) : List (List Int) × Int) =>
  if v12 < y1.2.1 then
  chk ((0 ≤ v9 ∧ v9 < v11.length) ∧ (0 ≤ v12 ∧ v12 < ((v11.getD v9.toNat []).length)) ∧ (-9223372036854775808 ≤ (y1.1 - (Int.tmod (((v8.getD v9.toNat []).getD v2.toNat 0) * y2) y1.1) : Int) ∧ (y1.1 - (Int.tmod (((v8.getD v9.toNat []).getD v2.toNat 0) * y2) y1.1) : Int) ≤ 9223372036854775807) ∧ (0 ≤ v2 ∧ v2 < v11.length) ∧ (0 ≤ v12 ∧ v12 < ((v11.getD v2.toNat []).length)) ∧ (-9223372036854775808 ≤ ((y1.1 - (Int.tmod (((v8.getD v9.toNat []).getD v2.toNat 0) * y2) y1.1)) * ((v11.getD v2.toNat []).getD v12.toNat 0) : Int) ∧ ((y1.1 - (Int.tmod (((v8.getD v9.toNat []).getD v2.toNat 0) * y2) y1.1)) * ((v11.getD v2.toNat []).getD v12.toNat 0) : Int) ≤ 9223372036854775807) ∧ (-9223372036854775808 ≤ (((v11.getD v9.toNat []).getD v12.toNat 0) + ((y1.1 - (Int.tmod (((v8.getD v9.toNat []).getD v2.toNat 0) * y2) y1.1)) * ((v11.getD v2.toNat []).getD v12.toNat 0)) : Int) ∧ (((v11.getD v9.toNat []).getD v12.toNat 0) + ((y1.1 - (Int.tmod (((v8.getD v9.toNat []).getD v2.toNat 0) * y2) y1.1)) * ((v11.getD v2.toNat []).getD v12.toNat 0)) : Int) ≤ 9223372036854775807) ∧ y1.1 ≠ 0) <|
  chk ((-9223372036854775808 ≤ (v12 + 1 : Int) ∧ (v12 + 1 : Int) ≤ 9223372036854775807)) <|
  some (.inl (v11.set v9.toNat ((v11.getD v9.toNat []).set v12.toNat (Int.tmod (((v11.getD v9.toNat []).getD v12.toNat 0) + ((y1.1 - (Int.tmod (((v8.getD v9.toNat []).getD v2.toNat 0) * y2) y1.1)) * ((v11.getD v2.toNat []).getD v12.toNat 0))) y1.1)), v12 + 1))
 else
  some (.inr v11)) (v8, v2)).bind fun (v13 : List (List Int)) =>
  chk ((-9223372036854775808 ≤ (v9 + 1 : Int) ∧ (v9 + 1 : Int) ≤ 9223372036854775807)) <|
  some (.inl (v13, v9 + 1))
 else
  some (.inr v8)) (v6, v2 + 1)).bind fun (v10 : List (List Int)) =>
  chk ((-9223372036854775808 ≤ (v2 + 1 : Int) ∧ (v2 + 1 : Int) ≤ 9223372036854775807)) <|
  some (.inl (v10, Int.tmod (v7 * ((v6.getD v2.toNat []).getD v2.toNat 0)) y1.1, v2 + 1))) fun j =>
  if v5 ≠ v2 then
  chk ((0 ≤ v2 ∧ v2 < v.length)) <|
  chk ((0 ≤ v5 ∧ v5 < v.length)) <|
  chk ((0 ≤ v5 ∧ v5 < v.length)) <|
  chk ((0 ≤ v2 ∧ v2 < v.length)) <|
  chk ((-9223372036854775808 ≤ (y1.1 - v1 : Int) ∧ (y1.1 - v1 : Int) ≤ 9223372036854775807) ∧ y1.1 ≠ 0) <|
  j ((v.set v5.toNat (v.getD v2.toNat [])).set v2.toNat (v.getD v5.toNat []), Int.tmod (y1.1 - v1) y1.1)
 else
  j (v, v1)
 else
  some (.inr (.inl v1))) (y1.2.2, 1, 0)).bind fun z => match z with
  | .inl v3 => (some (v3, 0))
  | .inr rr => some rr

end Go.SH
