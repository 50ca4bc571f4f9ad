/-
  Functions of the program as plain functions: rotakeep_KindsTotal. By a program of mine (shal.py). Conditions: none.
-/
import Derived.Test.YtdhbpoafkhojnaaAxN
import Derived.Test.YtdhbpoafkhojnaaSp
import Derived.Test.YtdhbpoafkhojnaaSpkindsg
import Derived.Test.YtdhbpoafkhojnaaSpkindsu
import Derived.Test.YtdhbpoafkhojnaaSprotaref
set_option linter.unusedVariables false
set_option linter.unusedSimpArgs false
namespace Go.SH
open Go Go.AX

noncomputable def rotakeep_KindsTotal (g_0 : Int) (g_1 : List (Int × Int)) (a1 : Int) : Option (Bool) :=
  (kinds_Uniform 1 2).bind fun y =>
  if ¬ (y.2.2 ≠ 0) then
  (rotalaw_Same_int y.2.1 [1, 2]).bind fun y1 =>
  if ¬ (y1 = true) then
  some false
 else
  (kinds_Graphic g_0 g_1).bind fun y2 =>
  if y2.2.2 ≠ 0 then
  some (decide (y2.1 = 0))
 else
  (rotaref_Pick a1 4).bind fun y3 =>
  chk ((0 ≤ y3 ∧ y3 < 4)) <|
  chk ((-9223372036854775808 ≤ (g_0 - 1 : Int) ∧ (g_0 - 1 : Int) ≤ 9223372036854775807)) <|
  (loopM (ρ := List (List Int)) (fun ((v, v1) : List (List Int) × Int) =>
  if v1 < min (g_0 - 1) 6 then
  chk ((0 ≤ (g_1.length : Int) ∧ (g_1.length : Int) ≤ 1099511627776)) <|
  (loopM (ρ := List Int) (fun ((v3, v4) : List Int × Int) =>
  if v4 < (g_1.length : Int) then
  chk ((0 ≤ v4 ∧ v4 < g_1.length)) <|
  joinM (fun (v6 : List Int) =>
  if (g_1.getD v4.toNat (0, 0)).2 = v1 then
  chk ((0 ≤ v4 ∧ v4 < v6.length) ∧ (-9223372036854775808 ≤ ((v6.getD v4.toNat 0) + ([2, 3, 5, 7].getD y3.toNat 0) : Int) ∧ ((v6.getD v4.toNat 0) + ([2, 3, 5, 7].getD y3.toNat 0) : Int) ≤ 9223372036854775807) ∧ (-9223372036854775808 ≤ (((v6.getD v4.toNat 0) + ([2, 3, 5, 7].getD y3.toNat 0)) - 1 : Int) ∧ (((v6.getD v4.toNat 0) + ([2, 3, 5, 7].getD y3.toNat 0)) - 1 : Int) ≤ 9223372036854775807) ∧ [2, 3, 5, 7].getD y3.toNat 0 ≠ 0) <|
  some (.inl (v6.set v4.toNat (Int.tmod (((v6.getD v4.toNat 0) + ([2, 3, 5, 7].getD y3.toNat 0)) - 1) ([2, 3, 5, 7].getD y3.toNat 0)), v4 + 1))
 else
  some (.inl (v6, v4 + 1))) fun j =>
  if (g_1.getD v4.toNat (0, 0)).1 = v1 then
  chk ((0 ≤ v4 ∧ v4 < v3.length) ∧ (-9223372036854775808 ≤ ((v3.getD v4.toNat 0) + 1 : Int) ∧ ((v3.getD v4.toNat 0) + 1 : Int) ≤ 9223372036854775807) ∧ [2, 3, 5, 7].getD y3.toNat 0 ≠ 0) <|
  j (v3.set v4.toNat (Int.tmod ((v3.getD v4.toNat 0) + 1) ([2, 3, 5, 7].getD y3.toNat 0)))
 else
  j v3
 else
  some (.inr v3)) (List.replicate (g_1.length : Int).toNat 0, 0)).bind fun (v5 : List Int) =>
  chk (((v ++ [v5]).length ≤ 1099511627776)) <|
  chk ((-9223372036854775808 ≤ (v1 + 1 : Int) ∧ (v1 + 1 : Int) ≤ 9223372036854775807)) <|
  some (.inl (v ++ [v5], v1 + 1))
 else
  some (.inr v)) (([] : List (List Int)), 0)).bind fun (v2 : List (List Int)) =>
  (kinds_Linear ([2, 3, 5, 7].getD y3.toNat 0) (g_1.length : Int) v2).bind fun y4 =>
  (if y4.2.2 = 0 then rotalaw_SameMatroid y4.1 y4.2.1 y2.1 y2.2.1 else some false).bind fun y5 =>
  some (decide ((y4.2.2 = 0 ∧ y5 = true)))
 else
  some false

end Go.SH
