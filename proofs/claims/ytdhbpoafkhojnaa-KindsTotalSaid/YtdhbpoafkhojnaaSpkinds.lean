/-
  Functions of the program as plain functions: kinds_inverse, kinds_rankOf, kinds_Linear_1, kinds_Linear. By a program of mine (shal.py). Conditions: none.
-/
import Derived.Test.YtdhbpoafkhojnaaAxN
import Derived.Test.YtdhbpoafkhojnaaSpkindsb
import Derived.Test.YtdhbpoafkhojnaaSpkindsm
set_option linter.unusedVariables false
set_option linter.unusedSimpArgs false
namespace Go.SH
open Go Go.AX

noncomputable def kinds_inverse (a : Int) (p : Int) : Option (Int) :=
  (loopM (ρ := Unit ⊕ Int) (fun (v : Int) =>
  if v < p then
  chk ((-9223372036854775808 ≤ (a * v : Int) ∧ (a * v : Int) ≤ 9223372036854775807) ∧ p ≠ 0) <|
  if Int.tmod (a * v) p = 1 then
  some (.inr (.inr v))
 else
  some (.inl (v + 1))
 else
  some (.inr (.inl ()))) 0).bind fun z => match z with
  | .inl _ => (some 0)
  | .inr rr => some rr

noncomputable def kinds_rankOf (x_0 : Int) (x_1 : Int) (x_2 : List (List Int)) (a1 : Int) : Option (Int) :=
  (loopM (ρ := List (List Int)) (fun ((v, v1) : List (List Int) × Int) =>
  if v1 < (x_2.length : Int) then
  chk ((0 ≤ v1 ∧ v1 < x_2.length)) <|
  (loopM (ρ := List Int) (fun ((v3, v4) : List Int × Int) =>
  if v4 < ((x_2.getD v1.toNat []).length : Int) then
  chk ((0 ≤ v4 ∧ v4 < (x_2.getD v1.toNat []).length)) <|
  chk (0 ≤ v4) <|
  if iand (a1 / 2 ^ v4.toNat) 1 = 1 then
  chk (((v3 ++ [(x_2.getD v1.toNat []).getD v4.toNat 0]).length ≤ 8796093022208)) <|
  chk ((-9223372036854775808 ≤ (v4 + 1 : Int) ∧ (v4 + 1 : Int) ≤ 9223372036854775807)) <|
  some (.inl (v3 ++ [(x_2.getD v1.toNat []).getD v4.toNat 0], v4 + 1))
 else
  chk ((-9223372036854775808 ≤ (v4 + 1 : Int) ∧ (v4 + 1 : Int) ≤ 9223372036854775807)) <|
  some (.inl (v3, v4 + 1))
 else
  some (.inr v3)) ([], 0)).bind fun (v5 : List Int) =>
  chk (((v ++ [v5]).length ≤ 1099511627776)) <|
  some (.inl (v ++ [v5], v1 + 1))
 else
  some (.inr v)) (([] : List (List Int)), 0)).bind fun (v2 : List (List Int)) =>
  (loopM (ρ := Int) (fun ((v6, v7, v8) : List (List Int) × Int × Int) =>
  (kinds_size a1).bind fun y =>
  if (v8 < y ∧ v7 < (v6.length : Int)) then
  (loopM (ρ := Int) (fun (v10 : Int) =>
  chk (((v10 < (v6.length : Int)) → (0 ≤ v10 ∧ v10 < v6.length)) ∧ ((v10 < (v6.length : Int)) → (0 ≤ v8 ∧ v8 < ((v6.getD v10.toNat []).length)))) <|
  if (v10 < (v6.length : Int) ∧ (v6.getD v10.toNat []).getD v8.toNat 0 = 0) then
  chk ((-9223372036854775808 ≤ (v10 + 1 : Int) ∧ (v10 + 1 : Int) ≤ 9223372036854775807)) <|
  some (.inl (v10 + 1))
 else
  some (.inr v10)) v7).bind fun (v11 : Int) =>
  if v11 = (v6.length : Int) then
  chk ((-9223372036854775808 ≤ (v8 + 1 : Int) ∧ (v8 + 1 : Int) ≤ 9223372036854775807)) <|
  some (.inl (v6, v7, v8 + 1))
 else
  chk ((0 ≤ v11 ∧ v11 < v6.length)) <|
  chk ((0 ≤ v7 ∧ v7 < v6.length)) <|
  chk ((0 ≤ v7 ∧ v7 < v6.length)) <|
  chk ((0 ≤ v11 ∧ v11 < v6.length)) <|
  chk ((0 ≤ v7 ∧ v7 < v6.length) ∧ (0 ≤ v8 ∧ v8 < ((((v6.set v7.toNat (v6.getD v11.toNat [])).set v11.toNat (v6.getD v7.toNat [])).getD v7.toNat []).length))) <|
  (kinds_inverse ((((v6.set v7.toNat (v6.getD v11.toNat [])).set v11.toNat (v6.getD v7.toNat [])).getD v7.toNat []).getD v8.toNat 0) x_0).bind fun y1 =>
  chk ((-9223372036854775808 ≤ (v7 + 1 : Int) ∧ (v7 + 1 : Int) ≤ 9223372036854775807)) <|
  (loopM (ρ := List (List Int)) (fun ((v12, v13) : List (List Int) × Int) =>
  if v13 < (v12.length : Int) then
  chk ((0 ≤ v13 ∧ v13 < v12.length) ∧ (0 ≤ v8 ∧ v8 < ((v12.getD v13.toNat []).length)) ∧ (-9223372036854775808 ≤ (((v12.getD v13.toNat []).getD v8.toNat 0) * y1 : Int) ∧ (((v12.getD v13.toNat []).getD v8.toNat 0) * y1 : Int) ≤ 9223372036854775807) ∧ x_0 ≠ 0) <|
  (loopM (ρ := List (List Int)) (fun ((v15, v16) : List (List Int) × Int) =>
  chk ((0 ≤ v13 ∧ v13 < v15.length)) <|
  if v16 < ((v15.getD v13.toNat []).length : Int) then
  chk ((0 ≤ v13 ∧ v13 < v15.length) ∧ (0 ≤ v16 ∧ v16 < ((v15.getD v13.toNat []).length)) ∧ (-9223372036854775808 ≤ (x_0 - (Int.tmod (((v12.getD v13.toNat []).getD v8.toNat 0) * y1) x_0) : Int) ∧ (x_0 - (Int.tmod (((v12.getD v13.toNat []).getD v8.toNat 0) * y1) x_0) : Int) ≤ 9223372036854775807) ∧ (0 ≤ v7 ∧ v7 < v15.length) ∧ (0 ≤ v16 ∧ v16 < ((v15.getD v7.toNat []).length)) ∧ (-9223372036854775808 ≤ ((x_0 - (Int.tmod (((v12.getD v13.toNat []).getD v8.toNat 0) * y1) x_0)) * ((v15.getD v7.toNat []).getD v16.toNat 0) : Int) ∧ ((x_0 - (Int.tmod (((v12.getD v13.toNat []).getD v8.toNat 0) * y1) x_0)) * ((v15.getD v7.toNat []).getD v16.toNat 0) : Int) ≤ 9223372036854775807) ∧ (-9223372036854775808 ≤ (((v15.getD v13.toNat []).getD v16.toNat 0) + ((x_0 - (Int.tmod (((v12.getD v13.toNat []).getD v8.toNat 0) * y1) x_0)) * ((v15.getD v7.toNat []).getD v16.toNat 0)) : Int) ∧ (((v15.getD v13.toNat []).getD v16.toNat 0) + ((x_0 - (Int.tmod (((v12.getD v13.toNat []).getD v8.toNat 0) * y1) x_0)) * ((v15.getD v7.toNat []).getD v16.toNat 0)) : Int) ≤ 9223372036854775807) ∧ x_0 ≠ 0) <|
  chk ((-9223372036854775808 ≤ (v16 + 1 : Int) ∧ (v16 + 1 : Int) ≤ 9223372036854775807)) <|
  some (.inl (v15.set v13.toNat ((v15.getD v13.toNat []).set v16.toNat (Int.tmod (((v15.getD v13.toNat []).getD v16.toNat 0) + ((x_0 - (Int.tmod (((v12.getD v13.toNat []).getD v8.toNat 0) * y1) x_0)) * ((v15.getD v7.toNat []).getD v16.toNat 0))) x_0)), v16 + 1))
 else
  some (.inr v15)) (v12, v8)).bind fun (v17 : List (List Int)) =>
  chk ((-9223372036854775808 ≤ (v13 + 1 : Int) ∧ (v13 + 1 : Int) ≤ 9223372036854775807)) <|
  some (.inl (v17, v13 + 1))
 else
  some (.inr v12)) ((v6.set v7.toNat (v6.getD v11.toNat [])).set v11.toNat (v6.getD v7.toNat []), v7 + 1)).bind fun (v14 : List (List Int)) =>
  chk ((-9223372036854775808 ≤ (v7 + 1 : Int) ∧ (v7 + 1 : Int) ≤ 9223372036854775807)) <|
  chk ((-9223372036854775808 ≤ (v8 + 1 : Int) ∧ (v8 + 1 : Int) ≤ 9223372036854775807)) <|
  some (.inl (v14, v7 + 1, v8 + 1))
 else
  some (.inr v7)) (v2, 0, 0)).bind fun (v9 : Int) =>
  some v9

noncomputable def kinds_Linear_1 (s : Int) (c0_0 : Int) (c0_1 : Int) (c0_2 : List (List Int)) : Option (Bool) :=
  (kinds_rankOf c0_0 c0_1 c0_2 s).bind fun y =>
  (kinds_size s).bind fun y1 =>
  some (decide (y = y1))

noncomputable def kinds_Linear (x_0 : Int) (x_1 : Int) (x_2 : List (List Int)) : Option (Int × List Int × Int) :=
  (kinds_CheckMatrix x_0 x_1 x_2).bind fun y =>
  if y ≠ 0 then
  some (0, [], y)
 else
  (kinds_greatest x_1 (fun x0 => kinds_Linear_1 x0 x_0 x_1 x_2)).bind fun y1 =>
  some (y1.1, y1.2, 0)

end Go.SH
