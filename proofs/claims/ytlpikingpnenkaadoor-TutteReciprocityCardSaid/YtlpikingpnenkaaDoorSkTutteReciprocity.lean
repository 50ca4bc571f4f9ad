/-
  Functions of the program as plain functions: rotakeep_TutteReciprocity. By a program of mine (shal.py). Conditions: none.
-/
import Derived.Test.YtlpikingpnenkaaDoorAxN
import Derived.Test.YtlpikingpnenkaaDoorSp
set_option linter.unusedVariables false
set_option linter.unusedSimpArgs false
namespace Go.SH
open Go Go.AX

noncomputable def rotakeep_TutteReciprocity (g_0 : Int) (g_1 : List (Int × Int)) (a1 : Int) : Option (Bool) :=
  (tutte_Chromatic 1 []).bind fun y =>
  if ¬ (y.2 ≠ 0) then
  (rotalaw_Same_int64 y.1 [0, 1]).bind fun y1 =>
  if ¬ (y1 = true) then
  some false
 else
  (tutte_Chromatic g_0 g_1).bind fun y2 =>
  if ((y2.2 ≠ 0 ∨ 5 < g_0) ∨ 6 < (g_1.length : Int)) then
  some (decide ((y2.2 = 0 ∨ (y2.1.length : Int) = 0)))
 else
  (rotaref_Pick a1 2).bind fun y3 =>
  chk ((-9223372036854775808 ≤ (1 + y3 : Int) ∧ (1 + y3 : Int) ≤ 9223372036854775807)) <|
  chk ((0 ≤ (g_1.length : Int) ∧ (g_1.length : Int) ≤ 62)) <|
  (loopM (ρ := Int) (fun ((v, v1) : Int × Int) =>
  if v1 < (2 ^ (g_1.length : Int).toNat : Int) then
  (loopM (ρ := List (Int × Int)) (fun ((v3, v4) : (List (Int × Int)) × Int) =>
  if v4 < (g_1.length : Int) then
  chk ((0 ≤ v4 ∧ v4 < g_1.length)) <|
  (rotaref_In v1 v4).bind fun y4 =>
  if y4 = true then
  chk (((v3 ++ [((g_1.getD v4.toNat (0, 0)).2, (g_1.getD v4.toNat (0, 0)).1)]).length ≤ 8796093022208)) <|
  some (.inl (v3 ++ [((g_1.getD v4.toNat (0, 0)).2, (g_1.getD v4.toNat (0, 0)).1)], v4 + 1))
 else
  chk (((v3 ++ [((g_1.getD v4.toNat (0, 0)).1, (g_1.getD v4.toNat (0, 0)).2)]).length ≤ 8796093022208)) <|
  some (.inl (v3 ++ [((g_1.getD v4.toNat (0, 0)).1, (g_1.getD v4.toNat (0, 0)).2)], v4 + 1))
 else
  some (.inr v3)) ([], 0)).bind fun (v5 : List (Int × Int)) =>
  (rotakeep_ringed g_0 v5).bind fun y5 =>
  if y5 = true then
  some (.inl (v, v1 + 1))
 else
  (rotakeep_power (1 + y3) g_0).bind fun y6 =>
  (loopM (ρ := Int) (fun ((v6, v7) : Int × Int) =>
  if v7 < y6 then
  (loopM (ρ := Bool) (fun ((v9, v10) : Bool × Int) =>
  if v10 < (v5.length : Int) then
  chk ((0 ≤ v10 ∧ v10 < v5.length) ∧ (v10.toNat < v5.length)) <|
  (if v9 = true then rotakeep_power (1 + y3) ((v5.getD v10.toNat (0, 0)).1) else some 0).bind fun y7 =>
  chk (((v9 = true) → y7 ≠ 0) ∧ ((v9 = true) → (-9223372036854775808 ≤ (Int.tdiv v7 y7 : Int) ∧ (Int.tdiv v7 y7 : Int) ≤ 9223372036854775807)) ∧ ((v9 = true) → 1 + y3 ≠ 0)) <|
  (if v9 = true then rotakeep_power (1 + y3) ((v5.getD v10.toNat (0, 0)).2) else some 0).bind fun y8 =>
  chk (((v9 = true) → y8 ≠ 0) ∧ ((v9 = true) → (-9223372036854775808 ≤ (Int.tdiv v7 y8 : Int) ∧ (Int.tdiv v7 y8 : Int) ≤ 9223372036854775807)) ∧ ((v9 = true) → 1 + y3 ≠ 0)) <|
  some (.inl (decide ((v9 = true ∧ Int.tmod (Int.tdiv v7 y8) (1 + y3) ≤ Int.tmod (Int.tdiv v7 y7) (1 + y3))), v10 + 1))
 else
  some (.inr v9)) (true, 0)).bind fun (v11 : Bool) =>
  if v11 = true then
  chk ((-9223372036854775808 ≤ (v6 + 1 : Int) ∧ (v6 + 1 : Int) ≤ 9223372036854775807)) <|
  some (.inl (v6 + 1, v7 + 1))
 else
  some (.inl (v6, v7 + 1))
 else
  some (.inr v6)) (v, 0)).bind fun (v8 : Int) =>
  some (.inl (v8, v1 + 1))
 else
  some (.inr v)) (0, 0)).bind fun (v2 : Int) =>
  chk ((-9223372036854775808 ≤ (-(1 + y3) : Int) ∧ (-(1 + y3) : Int) ≤ 9223372036854775807)) <|
  (rotakeep_value y2.1 (-(1 + y3))).bind fun y9 =>
  joinM (fun ((v12, v13) : Bool × List Int) =>
  (rotabig_Int_String v12 v13).bind fun y11 =>
  (strconv_Itoa v2).bind fun y12 =>
  some (decide (y11 = y12))) fun j =>
  if Int.tmod g_0 2 = 1 then
  (rotabig_Int_Neg (y9.1, y9.2)).bind fun y10 =>
  j (y10.1, y10.2)
 else
  j (y9.1, y9.2)
 else
  some false

end Go.SH
