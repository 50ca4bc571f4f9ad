/-
  Functions of the program as plain functions: rotakeep_ConvexHooks. By a program of mine (shal.py). Conditions: none.
-/
import Derived.Test.YthmmjfjlnadojaaAxN
import Derived.Test.YthmmjfjlnadojaaSpconvex
import Derived.Test.YthmmjfjlnadojaaSprotaref
set_option linter.unusedVariables false
set_option linter.unusedSimpArgs false
namespace Go.SH
open Go Go.AX

noncomputable def rotakeep_ConvexHooks (above : List Int) : Option (Bool) :=
  (convex_Orders 1 [0, 1]).bind fun y =>
  if (y.2 ≠ 0 ∨ y.1 ≠ 1) then
  some false
 else
  chk ((0 ≤ min (above.length : Int) 8 ∧ min (above.length : Int) 8 ≤ 1099511627776)) <|
  chk ((-9223372036854775808 ≤ ((min (above.length : Int) 8) - 1 : Int) ∧ ((min (above.length : Int) 8) - 1 : Int) ≤ 9223372036854775807)) <|
  (loopM (ρ := (List (Int × Int)) × List Int) (fun ((v, v1, v2) : (List (Int × Int)) × List Int × Int) =>
  if 0 ≤ v2 then
  chk ((0 ≤ v2 ∧ v2 < v1.length) ∧ (-9223372036854775808 ≤ ((v1.getD v2.toNat 0) + 1 : Int) ∧ ((v1.getD v2.toNat 0) + 1 : Int) ≤ 9223372036854775807)) <|
  if v2 = 0 then
  some (.inr (v, v1.set v2.toNat ((v1.getD v2.toNat 0) + 1)))
 else
  chk ((0 ≤ v2 ∧ v2 < above.length) ∧ (-9223372036854775808 ≤ (v2 + 1 : Int) ∧ (v2 + 1 : Int) ≤ 9223372036854775807)) <|
  (rotaref_Pick (above.getD v2.toNat 0) (v2 + 1)).bind fun y1 =>
  if y1 < v2 then
  chk (((v ++ [(y1, v2)]).length ≤ 1099511627776)) <|
  chk ((0 ≤ y1 ∧ y1 < v1.length) ∧ (0 ≤ v2 ∧ v2 < v1.length) ∧ (-9223372036854775808 ≤ (((v1.set v2.toNat ((v1.getD v2.toNat 0) + 1)).getD y1.toNat 0) + ((v1.set v2.toNat ((v1.getD v2.toNat 0) + 1)).getD v2.toNat 0) : Int) ∧ (((v1.set v2.toNat ((v1.getD v2.toNat 0) + 1)).getD y1.toNat 0) + ((v1.set v2.toNat ((v1.getD v2.toNat 0) + 1)).getD v2.toNat 0) : Int) ≤ 9223372036854775807)) <|
  chk ((-9223372036854775808 ≤ (v2 - 1 : Int) ∧ (v2 - 1 : Int) ≤ 9223372036854775807)) <|
  some (.inl (v ++ [(y1, v2)], (v1.set v2.toNat ((v1.getD v2.toNat 0) + 1)).set y1.toNat (((v1.set v2.toNat ((v1.getD v2.toNat 0) + 1)).getD y1.toNat 0) + ((v1.set v2.toNat ((v1.getD v2.toNat 0) + 1)).getD v2.toNat 0)), v2 - 1))
 else
  chk ((-9223372036854775808 ≤ (v2 - 1 : Int) ∧ (v2 - 1 : Int) ≤ 9223372036854775807)) <|
  some (.inl (v, v1.set v2.toNat ((v1.getD v2.toNat 0) + 1), v2 - 1))
 else
  some (.inr (v, v1))) ([], List.replicate (min (above.length : Int) 8).toNat 0, (min (above.length : Int) 8) - 1)).bind fun ((v3, v4) : (List (Int × Int)) × List Int) =>
  (convex_Ordered (min (above.length : Int) 8) v3).bind fun y2 =>
  (convex_Orders (min (above.length : Int) 8) y2.1).bind fun y3 =>
  (loopM (ρ := Int × Int) (fun ((v7, v8, v9) : Int × Int × Int) =>
  if v9 < min (above.length : Int) 8 then
  chk ((-9223372036854775808 ≤ (v7 * (v9 + 1) : Int) ∧ (v7 * (v9 + 1) : Int) ≤ 9223372036854775807)) <|
  chk ((0 ≤ v9 ∧ v9 < v4.length) ∧ (-9223372036854775808 ≤ (v8 * (v4.getD v9.toNat 0) : Int) ∧ (v8 * (v4.getD v9.toNat 0) : Int) ≤ 9223372036854775807)) <|
  some (.inl (v7 * (v9 + 1), v8 * (v4.getD v9.toNat 0), v9 + 1))
 else
  some (.inr (v7, v8))) (1, 1, 0)).bind fun ((v5, v6) : Int × Int) =>
  chk (((y2.2 = 0 ∧ y3.2 = 0) → (-9223372036854775808 ≤ (y3.1 * v6 : Int) ∧ (y3.1 * v6 : Int) ≤ 9223372036854775807))) <|
  some (decide (((y2.2 = 0 ∧ y3.2 = 0) ∧ y3.1 * v6 = v5)))

end Go.SH
