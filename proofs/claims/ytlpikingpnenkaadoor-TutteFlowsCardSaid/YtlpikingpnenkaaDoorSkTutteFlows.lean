/-
  Functions of the program as plain functions: rotakeep_TutteFlows. By a program of mine (shal.py). Conditions: none.
-/
import Derived.Test.YtlpikingpnenkaaDoorAxN
import Derived.Test.YtlpikingpnenkaaDoorSp
set_option linter.unusedVariables false
set_option linter.unusedSimpArgs false
namespace Go.SH
open Go Go.AX

noncomputable def rotakeep_TutteFlows (g_0 : Int) (g_1 : List (Int × Int)) (a1 : Int) : Option (Bool) :=
  (tutte_Flow 1 [(0, 0)]).bind fun y =>
  if ¬ (y.2 ≠ 0) then
  (rotalaw_Same_int64 y.1 [(-1), 1]).bind fun y1 =>
  if ¬ (y1 = true) then
  some false
 else
  (tutte_Flow g_0 g_1).bind fun y2 =>
  if y2.2 ≠ 0 then
  some (decide ((y2.1.length : Int) = 0))
 else
  (rotaref_Pick a1 3).bind fun y3 =>
  chk ((-9223372036854775808 ≤ (1 + y3 : Int) ∧ (1 + y3 : Int) ≤ 9223372036854775807)) <|
  chk ((-9223372036854775808 ≤ ((1 + y3) - 1 : Int) ∧ ((1 + y3) - 1 : Int) ≤ 9223372036854775807)) <|
  (rotakeep_power ((1 + y3) - 1) (g_1.length : Int)).bind fun y4 =>
  (loopM (ρ := Int) (fun ((v, v1) : Int × Int) =>
  if v1 < y4 then
  chk ((0 ≤ g_0 ∧ g_0 ≤ 1099511627776)) <|
  (loopM (ρ := List Int) (fun ((v3, v4) : List Int × Int) =>
  if v4 < (g_1.length : Int) then
  chk ((0 ≤ v4 ∧ v4 < g_1.length)) <|
  chk ((-9223372036854775808 ≤ ((1 + y3) - 1 : Int) ∧ ((1 + y3) - 1 : Int) ≤ 9223372036854775807)) <|
  (rotakeep_power ((1 + y3) - 1) v4).bind fun y5 =>
  chk (y5 ≠ 0 ∧ (-9223372036854775808 ≤ (Int.tdiv v1 y5 : Int) ∧ (Int.tdiv v1 y5 : Int) ≤ 9223372036854775807) ∧ (-9223372036854775808 ≤ ((1 + y3) - 1 : Int) ∧ ((1 + y3) - 1 : Int) ≤ 9223372036854775807) ∧ (1 + y3) - 1 ≠ 0 ∧ (-9223372036854775808 ≤ (1 + (Int.tmod (Int.tdiv v1 y5) ((1 + y3) - 1)) : Int) ∧ (1 + (Int.tmod (Int.tdiv v1 y5) ((1 + y3) - 1)) : Int) ≤ 9223372036854775807)) <|
  chk ((0 ≤ (g_1.getD v4.toNat (0, 0)).1 ∧ (g_1.getD v4.toNat (0, 0)).1 < v3.length) ∧ (-9223372036854775808 ≤ ((v3.getD ((g_1.getD v4.toNat (0, 0)).1).toNat 0) + (1 + (Int.tmod (Int.tdiv v1 y5) ((1 + y3) - 1))) : Int) ∧ ((v3.getD ((g_1.getD v4.toNat (0, 0)).1).toNat 0) + (1 + (Int.tmod (Int.tdiv v1 y5) ((1 + y3) - 1))) : Int) ≤ 9223372036854775807)) <|
  chk ((0 ≤ (g_1.getD v4.toNat (0, 0)).2 ∧ (g_1.getD v4.toNat (0, 0)).2 < v3.length) ∧ (-9223372036854775808 ≤ (((v3.set ((g_1.getD v4.toNat (0, 0)).1).toNat ((v3.getD ((g_1.getD v4.toNat (0, 0)).1).toNat 0) + (1 + (Int.tmod (Int.tdiv v1 y5) ((1 + y3) - 1))))).getD ((g_1.getD v4.toNat (0, 0)).2).toNat 0) - (1 + (Int.tmod (Int.tdiv v1 y5) ((1 + y3) - 1))) : Int) ∧ (((v3.set ((g_1.getD v4.toNat (0, 0)).1).toNat ((v3.getD ((g_1.getD v4.toNat (0, 0)).1).toNat 0) + (1 + (Int.tmod (Int.tdiv v1 y5) ((1 + y3) - 1))))).getD ((g_1.getD v4.toNat (0, 0)).2).toNat 0) - (1 + (Int.tmod (Int.tdiv v1 y5) ((1 + y3) - 1))) : Int) ≤ 9223372036854775807)) <|
  some (.inl ((v3.set ((g_1.getD v4.toNat (0, 0)).1).toNat ((v3.getD ((g_1.getD v4.toNat (0, 0)).1).toNat 0) + (1 + (Int.tmod (Int.tdiv v1 y5) ((1 + y3) - 1))))).set ((g_1.getD v4.toNat (0, 0)).2).toNat (((v3.set ((g_1.getD v4.toNat (0, 0)).1).toNat ((v3.getD ((g_1.getD v4.toNat (0, 0)).1).toNat 0) + (1 + (Int.tmod (Int.tdiv v1 y5) ((1 + y3) - 1))))).getD ((g_1.getD v4.toNat (0, 0)).2).toNat 0) - (1 + (Int.tmod (Int.tdiv v1 y5) ((1 + y3) - 1)))), v4 + 1))
 else
  some (.inr v3)) (List.replicate g_0.toNat 0, 0)).bind fun (v5 : List Int) =>
  (slices_ContainsFunc_int_int v5 (fun x0 => rotakeep_TutteFlows_1 x0 (1 + y3))).bind fun y6 =>
  if ¬ (y6 = true) then
  chk ((-9223372036854775808 ≤ (v + 1 : Int) ∧ (v + 1 : Int) ≤ 9223372036854775807)) <|
  some (.inl (v + 1, v1 + 1))
 else
  some (.inl (v, v1 + 1))
 else
  some (.inr v)) (0, 0)).bind fun (v2 : Int) =>
  (rotakeep_value y2.1 (1 + y3)).bind fun y7 =>
  (rotabig_Int_String y7.1 y7.2).bind fun y8 =>
  (strconv_Itoa v2).bind fun y9 =>
  some (decide (y8 = y9))
 else
  some false

end Go.SH
