/-
  Functions of the program as plain functions: rotabig_trim, rotabig_words, rotabig_Int_give, rotabig_Int_SetInt64, rotabig_NewInt, rotabig_twin, rotabig_Int_Set, rotabig_plain, rotabig_common, rotabig_cmp, rotabig_div, rotabig_Rat_norm, rotabig_Rat_SetFrac, rotabig_NewRat, rotabig_Rat_den_B, rotabig_mul, rotabig_Int_Mul_r, rotabig_Rat_den_A, rotabig_add, rotabig_sub, rotabig_sum, rotabig_Int_Add_r, rotabig_Rat_Add_A, rotabig_Rat_Add_B, rotabig_Rat_Add, rotabig_Int_Cmp, rotabig_Rat_Cmp_A, rotabig_Rat_Cmp_B, rotabig_Rat_Cmp. By a program of mine (shal.py). Functions of the program as plain functions: rotalaw_Same_int. By a program of mine (shal.py). Functions of the program as plain functions: slices_IndexFunc_int_int, slices_ContainsFunc_int_int. By a program of mine (shal.py). Functions of the program as plain functions: sets_Family, sets_Most_1, sets_Most, sets_least_1, sets_least, sets_Least. By a program of mine (shal.py).  Conditions: none.
-/
import Derived.Test.YtlpikingpnenkaaAxN

set_option linter.unusedVariables false
set_option linter.unusedSimpArgs false
namespace Go.SH
open Go Go.AX

noncomputable def rotabig_trim (a : List Int) : Option (List Int) :=
  (loopM (ρ := Int) (fun (n : Int) =>
  chk (((0 < n) → (-9223372036854775808 ≤ (n - 1 : Int) ∧ (n - 1 : Int) ≤ 9223372036854775807)) ∧ ((0 < n) → (0 ≤ n - 1 ∧ n - 1 < a.length))) <|
  if (0 < n ∧ a.getD (n - 1).toNat 0 = 0) then
  chk ((-9223372036854775808 ≤ (n - 1 : Int) ∧ (n - 1 : Int) ≤ 9223372036854775807)) <|
  some (.inl (n - 1))
 else
  some (.inr n)) (a.length : Int)).bind fun (n1 : Int) =>
  chk ((0 ≤ n1 ∧ n1 ≤ a.length)) <|
  some (List.take n1.toNat a)

noncomputable def rotabig_words (x : Int) : Option (List Int) :=
  (rotabig_trim [IntKind.wrap .u32 x, IntKind.wrap .u32 (x / 2 ^ 32)]).bind fun y =>
  some y

noncomputable def rotabig_Int_give (neg : Bool) (q0 : Bool × List Int) (a : List Int) : Option (Bool × List Int) :=
  some (decide ((neg = true ∧ 0 < (a.length : Int))), a)

noncomputable def rotabig_Int_SetInt64 (x : Int) (q0 : Bool × List Int) : Option (Bool × List Int) :=
  joinM (fun (u : Int) =>
  (rotabig_words u).bind fun y =>
  (rotabig_Int_give (decide (x < 0)) (q0.1, q0.2) y).bind fun y1 =>
  some (y1.1, y1.2)) fun j =>
  if x < 0 then
  j (IntKind.wrap .u64 (-(IntKind.wrap .u64 x)))
 else
  j (IntKind.wrap .u64 x)

noncomputable def rotabig_NewInt (x : Int) : Option (Bool × List Int) :=
  (rotabig_Int_SetInt64 x (false, [])).bind fun y =>
  some (y.1, y.2)

noncomputable def rotabig_twin (a : List Int) : Option (List Int) :=
  chk ((a.length ≤ 8796093022208)) <|
  some a

noncomputable def rotabig_Int_Set (x_0 : Bool) (x_1 : List Int) (q0 : Bool × List Int) : Option (Bool × List Int) :=
  (rotabig_twin x_1).bind fun y =>
  (rotabig_Int_give x_0 (q0.1, q0.2) y).bind fun y1 =>
  some (y1.1, y1.2)

noncomputable def rotabig_plain (a : List Int) : Option (Int) :=
  joinM (fun (u : Int) =>
  if 1 < (a.length : Int) then
  chk (1 < a.length ∧ (0 ≤ (a.getD 1 0 : Int) ∧ (a.getD 1 0 : Int) ≤ 18446744073709551615) ∧ (shlOk .u64 (a.getD 1 0) 32 = true)) <|
  some (ior u ((a.getD 1 0) * (2 ^ 32 : Int)))
 else
  some u) fun j =>
  if 0 < (a.length : Int) then
  chk (0 < a.length ∧ (0 ≤ (a.getD 0 0 : Int) ∧ (a.getD 0 0 : Int) ≤ 18446744073709551615)) <|
  j (a.getD 0 0)
 else
  j 0

noncomputable def rotabig_common (a : List Int) (b : List Int) : Option (List Int) :=
  (loopM (ρ := Unit) (fun (_ : Unit) =>
  if 2 < (b.length : Int) then
  none
 else
  some (.inr ())) ()).bind fun (_ : Unit) =>
  if (b.length : Int) = 0 then
  none
 else
  if 2 < (a.length : Int) then
  none
 else
  (rotabig_plain a).bind fun y =>
  (rotabig_plain b).bind fun y1 =>
  (loopM (ρ := Int) (fun ((x, y2) : Int × Int) =>
  if 0 < y2 then
  chk (y2 ≠ 0) <|
  some (.inl (y2, Int.tmod x y2))
 else
  some (.inr x)) (y, y1)).bind fun (x1 : Int) =>
  (rotabig_words x1).bind fun y3 =>
  some y3

noncomputable def rotabig_cmp (a : List Int) (b : List Int) : Option (Int) :=
  if (a.length : Int) ≠ (b.length : Int) then
  if (a.length : Int) < (b.length : Int) then
  some (-1)
 else
  some 1
 else
  chk ((-9223372036854775808 ≤ ((a.length : Int) - 1 : Int) ∧ ((a.length : Int) - 1 : Int) ≤ 9223372036854775807)) <|
  (loopM (ρ := Unit ⊕ Int) (fun (i : Int) =>
  if 0 ≤ i then
  chk ((0 ≤ i ∧ i < a.length) ∧ (0 ≤ i ∧ i < b.length)) <|
  if a.getD i.toNat 0 ≠ b.getD i.toNat 0 then
  chk ((0 ≤ i ∧ i < a.length) ∧ (0 ≤ i ∧ i < b.length)) <|
  if a.getD i.toNat 0 < b.getD i.toNat 0 then
  some (.inr (.inr (-1)))
 else
  some (.inr (.inr 1))
 else
  chk ((-9223372036854775808 ≤ (i - 1 : Int) ∧ (i - 1 : Int) ≤ 9223372036854775807)) <|
  some (.inl (i - 1))
 else
  some (.inr (.inl ()))) ((a.length : Int) - 1)).bind fun z => match z with
  | .inl _ => (some 0)
  | .inr rr => some rr

noncomputable def rotabig_div (a : List Int) (a1 : List Int) : Option (List Int × List Int) :=
  if (a1.length : Int) = 0 then
  none
 else
  (rotabig_cmp a a1).bind fun y =>
  if y < 0 then
  none
 else
  if (a.length : Int) ≤ 2 then
  (rotabig_plain a).bind fun y1 =>
  (rotabig_plain a1).bind fun y2 =>
  chk (y2 ≠ 0 ∧ (0 ≤ (Int.tdiv y1 y2 : Int) ∧ (Int.tdiv y1 y2 : Int) ≤ 18446744073709551615)) <|
  (rotabig_words (Int.tdiv y1 y2)).bind fun y3 =>
  chk (y2 ≠ 0) <|
  (rotabig_words (Int.tmod y1 y2)).bind fun y4 =>
  some (y3, y4)
 else
  none

noncomputable def rotabig_Rat_norm (q0 : (Bool × List Int) × (Bool × List Int)) : Option ((Bool × List Int) × (Bool × List Int)) :=
  if (q0.2.2.length : Int) = 0 then
  none
 else
  if q0.2.1 = true then
  none
 else
  if (q0.1.2.length : Int) = 0 then
  none
 else
  chk (((q0.2.2.length : Int) = 1 → (0 ≤ 0 ∧ 0 < q0.2.2.length))) <|
  if ((q0.2.2.length : Int) = 1 ∧ q0.2.2.getD 0 0 = 1) then
  some ((q0.1.1, q0.1.2), (q0.2.1, q0.2.2))
 else
  (rotabig_common q0.1.2 q0.2.2).bind fun y =>
  chk (((y.length : Int) = 1 → (0 ≤ 0 ∧ 0 < y.length))) <|
  if ((y.length : Int) = 1 ∧ y.getD 0 0 = 1) then
  some ((q0.1.1, q0.1.2), (q0.2.1, q0.2.2))
 else
  (rotabig_div q0.1.2 y).bind fun y1 =>
  (rotabig_div q0.2.2 y).bind fun y2 =>
  some ((q0.1.1, y1.1), (q0.2.1, y2.1))

noncomputable def rotabig_Rat_SetFrac (a_0 : Bool) (a_1 : List Int) (b_0 : Bool) (b_1 : List Int) (q0 : (Bool × List Int) × (Bool × List Int)) : Option ((Bool × List Int) × (Bool × List Int)) :=
  if (b_1.length : Int) = 0 then
  none
 else
  (rotabig_Int_Set a_0 a_1 (false, [])).bind fun y =>
  (rotabig_Int_Set b_0 b_1 (false, [])).bind fun y1 =>
  (rotabig_Rat_norm ((y.1, y.2), (y1.1, y1.2))).bind fun y2 =>
  some ((y2.1.1, y2.1.2), (y2.2.1, y2.2.2))

noncomputable def rotabig_NewRat (a : Int) (b : Int) : Option (((Bool × List Int) × (Bool × List Int))) :=
  if b = 0 then
  some ((false, []), (false, []))
 else
  (rotabig_NewInt a).bind fun y =>
  (rotabig_NewInt b).bind fun y1 =>
  (rotabig_Rat_SetFrac y.1 y.2 y1.1 y1.2 ((false, []), (false, []))).bind fun y2 =>
  some ((y2.1.1, y2.1.2), (y2.2.1, y2.2.2))

noncomputable def rotabig_Rat_den_B (q0 : (Bool × List Int) × (Bool × List Int)) : Option ((Bool × List Int) × (Bool × List Int)) :=
  if (q0.2.2.length : Int) = 0 then
  none
 else
  some ((q0.1.1, q0.1.2), (q0.2.1, q0.2.2))

noncomputable def rotabig_mul (a : List Int) (a1 : List Int) : Option (List Int) :=
  if ((a.length : Int) = 0 ∨ (a1.length : Int) = 0) then
  some []
 else
  chk ((-9223372036854775808 ≤ ((a.length : Int) + (a1.length : Int) : Int) ∧ ((a.length : Int) + (a1.length : Int) : Int) ≤ 9223372036854775807) ∧ (0 ≤ (a.length : Int) + (a1.length : Int) ∧ (a.length : Int) + (a1.length : Int) ≤ 1099511627776)) <|
  (loopM (ρ := List Int) (fun ((v, v1) : List Int × Int) =>
  if v1 < (a.length : Int) then
  (loopM (ρ := List Int × Int) (fun ((v3, v4, v5) : List Int × Int × Int) =>
  if v5 < (a1.length : Int) then
  chk ((0 ≤ v1 ∧ v1 < a.length) ∧ (0 ≤ (a.getD v1.toNat 0 : Int) ∧ (a.getD v1.toNat 0 : Int) ≤ 18446744073709551615) ∧ (0 ≤ v5 ∧ v5 < a1.length) ∧ (0 ≤ (a1.getD v5.toNat 0 : Int) ∧ (a1.getD v5.toNat 0 : Int) ≤ 18446744073709551615) ∧ (0 ≤ ((a.getD v1.toNat 0) * (a1.getD v5.toNat 0) : Int) ∧ ((a.getD v1.toNat 0) * (a1.getD v5.toNat 0) : Int) ≤ 18446744073709551615) ∧ (-9223372036854775808 ≤ (v1 + v5 : Int) ∧ (v1 + v5 : Int) ≤ 9223372036854775807) ∧ (0 ≤ v1 + v5 ∧ v1 + v5 < v3.length) ∧ (0 ≤ (v3.getD (v1 + v5).toNat 0 : Int) ∧ (v3.getD (v1 + v5).toNat 0 : Int) ≤ 18446744073709551615) ∧ (0 ≤ (((a.getD v1.toNat 0) * (a1.getD v5.toNat 0)) + (v3.getD (v1 + v5).toNat 0) : Int) ∧ (((a.getD v1.toNat 0) * (a1.getD v5.toNat 0)) + (v3.getD (v1 + v5).toNat 0) : Int) ≤ 18446744073709551615) ∧ (0 ≤ (v4 + (((a.getD v1.toNat 0) * (a1.getD v5.toNat 0)) + (v3.getD (v1 + v5).toNat 0)) : Int) ∧ (v4 + (((a.getD v1.toNat 0) * (a1.getD v5.toNat 0)) + (v3.getD (v1 + v5).toNat 0)) : Int) ≤ 18446744073709551615)) <|
  chk ((-9223372036854775808 ≤ (v1 + v5 : Int) ∧ (v1 + v5 : Int) ≤ 9223372036854775807)) <|
  chk ((0 ≤ v1 + v5 ∧ v1 + v5 < v3.length)) <|
  some (.inl (v3.set (v1 + v5).toNat (IntKind.wrap .u32 (v4 + (((a.getD v1.toNat 0) * (a1.getD v5.toNat 0)) + (v3.getD (v1 + v5).toNat 0)))), (v4 + (((a.getD v1.toNat 0) * (a1.getD v5.toNat 0)) + (v3.getD (v1 + v5).toNat 0))) / 2 ^ 32, v5 + 1))
 else
  some (.inr (v3, v4))) (v, 0, 0)).bind fun ((v6, v7) : List Int × Int) =>
  chk ((-9223372036854775808 ≤ (v1 + (a1.length : Int) : Int) ∧ (v1 + (a1.length : Int) : Int) ≤ 9223372036854775807)) <|
  chk ((0 ≤ v1 + (a1.length : Int) ∧ v1 + (a1.length : Int) < v6.length)) <|
  some (.inl (v6.set (v1 + (a1.length : Int)).toNat (IntKind.wrap .u32 v7), v1 + 1))
 else
  some (.inr v)) (List.replicate ((a.length : Int) + (a1.length : Int)).toNat 0, 0)).bind fun (v2 : List Int) =>
  (rotabig_trim v2).bind fun y =>
  some y

noncomputable def rotabig_Int_Mul_r (x_0 : Bool) (x_1 : List Int) (y_0 : Bool) (y_1 : List Int) (q0 : Bool × List Int) : Option (Bool × List Int) :=
  (rotabig_mul x_1 y_1).bind fun y1 =>
  (rotabig_Int_give (decide (¬ (x_0 = true ↔ y_0 = true))) (q0.1, q0.2) y1).bind fun y2 =>
  some (y2.1, y2.2)

noncomputable def rotabig_Rat_den_A (q0 : (Bool × List Int) × (Bool × List Int)) : Option ((Bool × List Int) × ((Bool × List Int) × (Bool × List Int))) :=
  if (q0.2.2.length : Int) = 0 then
  (rotabig_NewInt 1).bind fun y =>
  some ((y.1, y.2), ((q0.1.1, q0.1.2), (q0.2.1, q0.2.2)))
 else
  none

noncomputable def rotabig_add (a : List Int) (b : List Int) : Option (List Int) :=
  joinM (fun ((a1, b1) : List Int × List Int) =>
  chk ((-9223372036854775808 ≤ ((a1.length : Int) + 1 : Int) ∧ ((a1.length : Int) + 1 : Int) ≤ 9223372036854775807) ∧ (0 ≤ (a1.length : Int) + 1 ∧ (a1.length : Int) + 1 ≤ 1099511627776)) <|
  (loopM (ρ := List Int × Int) (fun ((r1, c, i) : List Int × Int × Int) =>
  if i < (a1.length : Int) then
  chk ((0 ≤ i ∧ i < a1.length) ∧ (0 ≤ (a1.getD i.toNat 0 : Int) ∧ (a1.getD i.toNat 0 : Int) ≤ 18446744073709551615) ∧ (0 ≤ (c + (a1.getD i.toNat 0) : Int) ∧ (c + (a1.getD i.toNat 0) : Int) ≤ 18446744073709551615)) <|
  if i < (b1.length : Int) then
  chk ((0 ≤ i ∧ i < b1.length) ∧ (0 ≤ (b1.getD i.toNat 0 : Int) ∧ (b1.getD i.toNat 0 : Int) ≤ 18446744073709551615) ∧ (0 ≤ ((c + (a1.getD i.toNat 0)) + (b1.getD i.toNat 0) : Int) ∧ ((c + (a1.getD i.toNat 0)) + (b1.getD i.toNat 0) : Int) ≤ 18446744073709551615)) <|
  chk ((0 ≤ i ∧ i < r1.length)) <|
  some (.inl (r1.set i.toNat (IntKind.wrap .u32 ((c + (a1.getD i.toNat 0)) + (b1.getD i.toNat 0))), ((c + (a1.getD i.toNat 0)) + (b1.getD i.toNat 0)) / 2 ^ 32, i + 1))
 else
  chk ((0 ≤ i ∧ i < r1.length)) <|
  some (.inl (r1.set i.toNat (IntKind.wrap .u32 (c + (a1.getD i.toNat 0))), (c + (a1.getD i.toNat 0)) / 2 ^ 32, i + 1))
 else
  some (.inr (r1, c))) (List.replicate ((a1.length : Int) + 1).toNat 0, 0, 0)).bind fun ((r2, c1) : List Int × Int) =>
  chk ((0 ≤ (a1.length : Int) ∧ (a1.length : Int) < r2.length)) <|
  (rotabig_trim (r2.set (a1.length : Int).toNat (IntKind.wrap .u32 c1))).bind fun y =>
  some y) fun j =>
  if (a.length : Int) < (b.length : Int) then
  j (b, a)
 else
  j (a, b)

noncomputable def rotabig_sub (a : List Int) (b : List Int) : Option (List Int) :=
  chk ((0 ≤ (a.length : Int) ∧ (a.length : Int) ≤ 1099511627776)) <|
  (loopM (ρ := List Int) (fun ((r1, c, i) : List Int × Int × Int) =>
  if i < (a.length : Int) then
  chk ((0 ≤ i ∧ i < a.length) ∧ (0 ≤ (a.getD i.toNat 0 : Int) ∧ (a.getD i.toNat 0 : Int) ≤ 18446744073709551615)) <|
  if i < (b.length : Int) then
  chk ((0 ≤ i ∧ i < b.length) ∧ (0 ≤ (b.getD i.toNat 0 : Int) ∧ (b.getD i.toNat 0 : Int) ≤ 18446744073709551615)) <|
  chk ((0 ≤ i ∧ i < r1.length)) <|
  some (.inl (r1.set i.toNat (IntKind.wrap .u32 (IntKind.wrap .u64 ((IntKind.wrap .u64 ((a.getD i.toNat 0) - c)) - (b.getD i.toNat 0)))), (IntKind.wrap .u64 ((IntKind.wrap .u64 ((a.getD i.toNat 0) - c)) - (b.getD i.toNat 0))) / 2 ^ 63, i + 1))
 else
  chk ((0 ≤ i ∧ i < r1.length)) <|
  some (.inl (r1.set i.toNat (IntKind.wrap .u32 (IntKind.wrap .u64 ((a.getD i.toNat 0) - c))), (IntKind.wrap .u64 ((a.getD i.toNat 0) - c)) / 2 ^ 63, i + 1))
 else
  some (.inr r1)) (List.replicate (a.length : Int).toNat 0, 0, 0)).bind fun (r2 : List Int) =>
  (rotabig_trim r2).bind fun y =>
  some y

noncomputable def rotabig_sum (xn : Bool) (xa : List Int) (yn : Bool) (ya : List Int) : Option (Bool × List Int) :=
  if (xn = true ↔ yn = true) then
  (rotabig_add xa ya).bind fun y =>
  some (xn, y)
 else
  (rotabig_cmp xa ya).bind fun y1 =>
  if 0 ≤ y1 then
  (rotabig_sub xa ya).bind fun y2 =>
  some (xn, y2)
 else
  (rotabig_sub ya xa).bind fun y3 =>
  some (yn, y3)

noncomputable def rotabig_Int_Add_r (x_0 : Bool) (x_1 : List Int) (y_0 : Bool) (y_1 : List Int) (q0 : Bool × List Int) : Option (Bool × List Int) :=
  (rotabig_sum x_0 x_1 y_0 y_1).bind fun y1 =>
  (rotabig_Int_give y1.1 (q0.1, q0.2) y1.2).bind fun y2 =>
  some (y2.1, y2.2)

noncomputable def rotabig_Rat_Add_A (q0 : (Bool × List Int) × (Bool × List Int)) (q1 : (Bool × List Int) × (Bool × List Int)) : Option (((Bool × List Int) × (Bool × List Int)) × ((Bool × List Int) × (Bool × List Int))) :=
  (rotabig_Rat_den_B ((q1.1.1, q1.1.2), (q1.2.1, q1.2.2))).bind fun y1 =>
  (rotabig_Int_Mul_r q0.1.1 q0.1.2 y1.2.1 y1.2.2 (false, [])).bind fun y2 =>
  (rotabig_Rat_den_A ((q0.1.1, q0.1.2), (q0.2.1, q0.2.2))).bind fun y3 =>
  (rotabig_Int_Mul_r y1.1.1 y1.1.2 y3.1.1 y3.1.2 (false, [])).bind fun y4 =>
  (rotabig_Int_Add_r y2.1 y2.2 y4.1 y4.2 (false, [])).bind fun y5 =>
  (rotabig_Rat_den_A ((y3.2.1.1, y3.2.1.2), (y3.2.2.1, y3.2.2.2))).bind fun y6 =>
  (rotabig_Rat_den_B ((y1.1.1, y1.1.2), (y1.2.1, y1.2.2))).bind fun y7 =>
  (rotabig_Int_Mul_r y6.1.1 y6.1.2 y7.2.1 y7.2.2 (false, [])).bind fun y8 =>
  (rotabig_Rat_SetFrac y5.1 y5.2 y8.1 y8.2 ((y6.2.1.1, y6.2.1.2), (y6.2.2.1, y6.2.2.2))).bind fun y9 =>
  some (((y9.1.1, y9.1.2), (y9.2.1, y9.2.2)), ((y7.1.1, y7.1.2), (y7.2.1, y7.2.2)))

noncomputable def rotabig_Rat_Add_B (q0 : (Bool × List Int) × (Bool × List Int)) (q1 : (Bool × List Int) × (Bool × List Int)) : Option (((Bool × List Int) × (Bool × List Int)) × ((Bool × List Int) × (Bool × List Int))) :=
  (rotabig_Rat_den_B ((q1.1.1, q1.1.2), (q1.2.1, q1.2.2))).bind fun y1 =>
  (rotabig_Int_Mul_r q0.1.1 q0.1.2 y1.2.1 y1.2.2 (false, [])).bind fun y2 =>
  (rotabig_Rat_den_B ((q0.1.1, q0.1.2), (q0.2.1, q0.2.2))).bind fun y3 =>
  (rotabig_Int_Mul_r y1.1.1 y1.1.2 y3.2.1 y3.2.2 (false, [])).bind fun y4 =>
  (rotabig_Int_Add_r y2.1 y2.2 y4.1 y4.2 (false, [])).bind fun y5 =>
  (rotabig_Rat_den_B ((y3.1.1, y3.1.2), (y3.2.1, y3.2.2))).bind fun y6 =>
  (rotabig_Rat_den_B ((y1.1.1, y1.1.2), (y1.2.1, y1.2.2))).bind fun y7 =>
  (rotabig_Int_Mul_r y6.2.1 y6.2.2 y7.2.1 y7.2.2 (false, [])).bind fun y8 =>
  (rotabig_Rat_SetFrac y5.1 y5.2 y8.1 y8.2 ((y6.1.1, y6.1.2), (y6.2.1, y6.2.2))).bind fun y9 =>
  some (((y9.1.1, y9.1.2), (y9.2.1, y9.2.2)), ((y7.1.1, y7.1.2), (y7.2.1, y7.2.2)))

noncomputable def rotabig_Rat_Add (q0 : (Bool × List Int) × (Bool × List Int)) (q1 : (Bool × List Int) × (Bool × List Int)) : Option (((Bool × List Int) × (Bool × List Int)) × ((Bool × List Int) × (Bool × List Int))) :=
  if q0.2.2 = [] then rotabig_Rat_Add_A q0 q1 else rotabig_Rat_Add_B q0 q1

noncomputable def rotabig_Int_Cmp (x_0 : Bool) (x_1 : List Int) (y_0 : Bool) (y_1 : List Int) : Option (Int) :=
  if ¬ (x_0 = true ↔ y_0 = true) then
  if x_0 = true then
  some (-1)
 else
  some 1
 else
  (rotabig_cmp x_1 y_1).bind fun y1 =>
  if x_0 = true then
  chk ((-9223372036854775808 ≤ (-y1 : Int) ∧ (-y1 : Int) ≤ 9223372036854775807)) <|
  some (-y1)
 else
  some y1

noncomputable def rotabig_Rat_Cmp_A (q0 : (Bool × List Int) × (Bool × List Int)) (q1 : (Bool × List Int) × (Bool × List Int)) : Option (Int × ((Bool × List Int) × (Bool × List Int)) × ((Bool × List Int) × (Bool × List Int))) :=
  (rotabig_Rat_den_A ((q0.1.1, q0.1.2), (q0.2.1, q0.2.2))).bind fun y1 =>
  (rotabig_Rat_den_B ((q1.1.1, q1.1.2), (q1.2.1, q1.2.2))).bind fun y2 =>
  (rotabig_Int_Cmp y1.1.1 y1.1.2 y2.2.1 y2.2.2).bind fun y3 =>
  if y3 = 0 then
  (rotabig_Int_Cmp y1.2.1.1 y1.2.1.2 y2.1.1 y2.1.2).bind fun y4 =>
  some (y4, ((y1.2.1.1, y1.2.1.2), (y1.2.2.1, y1.2.2.2)), ((y2.1.1, y2.1.2), (y2.2.1, y2.2.2)))
 else
  (rotabig_Rat_den_B ((y2.1.1, y2.1.2), (y2.2.1, y2.2.2))).bind fun y5 =>
  (rotabig_Int_Mul_r y1.2.1.1 y1.2.1.2 y5.2.1 y5.2.2 (false, [])).bind fun y6 =>
  (rotabig_Rat_den_A ((y1.2.1.1, y1.2.1.2), (y1.2.2.1, y1.2.2.2))).bind fun y7 =>
  (rotabig_Int_Mul_r y5.1.1 y5.1.2 y7.1.1 y7.1.2 (false, [])).bind fun y8 =>
  (rotabig_Int_Cmp y6.1 y6.2 y8.1 y8.2).bind fun y9 =>
  some (y9, ((y7.2.1.1, y7.2.1.2), (y7.2.2.1, y7.2.2.2)), ((y5.1.1, y5.1.2), (y5.2.1, y5.2.2)))

noncomputable def rotabig_Rat_Cmp_B (q0 : (Bool × List Int) × (Bool × List Int)) (q1 : (Bool × List Int) × (Bool × List Int)) : Option (Int × ((Bool × List Int) × (Bool × List Int)) × ((Bool × List Int) × (Bool × List Int))) :=
  (rotabig_Rat_den_B ((q0.1.1, q0.1.2), (q0.2.1, q0.2.2))).bind fun y1 =>
  (rotabig_Rat_den_B ((q1.1.1, q1.1.2), (q1.2.1, q1.2.2))).bind fun y2 =>
  (rotabig_Int_Cmp y1.2.1 y1.2.2 y2.2.1 y2.2.2).bind fun y3 =>
  if y3 = 0 then
  (rotabig_Int_Cmp y1.1.1 y1.1.2 y2.1.1 y2.1.2).bind fun y4 =>
  some (y4, ((y1.1.1, y1.1.2), (y1.2.1, y1.2.2)), ((y2.1.1, y2.1.2), (y2.2.1, y2.2.2)))
 else
  (rotabig_Rat_den_B ((y2.1.1, y2.1.2), (y2.2.1, y2.2.2))).bind fun y5 =>
  (rotabig_Int_Mul_r y1.1.1 y1.1.2 y5.2.1 y5.2.2 (false, [])).bind fun y6 =>
  (rotabig_Rat_den_B ((y1.1.1, y1.1.2), (y1.2.1, y1.2.2))).bind fun y7 =>
  (rotabig_Int_Mul_r y5.1.1 y5.1.2 y7.2.1 y7.2.2 (false, [])).bind fun y8 =>
  (rotabig_Int_Cmp y6.1 y6.2 y8.1 y8.2).bind fun y9 =>
  some (y9, ((y7.1.1, y7.1.2), (y7.2.1, y7.2.2)), ((y5.1.1, y5.1.2), (y5.2.1, y5.2.2)))

noncomputable def rotabig_Rat_Cmp (q0 : (Bool × List Int) × (Bool × List Int)) (q1 : (Bool × List Int) × (Bool × List Int)) : Option (Int × ((Bool × List Int) × (Bool × List Int)) × ((Bool × List Int) × (Bool × List Int))) :=
  if q0.2.2 = [] then rotabig_Rat_Cmp_A q0 q1 else rotabig_Rat_Cmp_B q0 q1

end Go.SH

set_option linter.unusedVariables false
set_option linter.unusedSimpArgs false
namespace Go.SH
open Go Go.AX

noncomputable def rotalaw_Same_int (a : List Int) (b : List Int) : Option (Bool) :=
  if (a.length : Int) ≠ (b.length : Int) then
  some false
 else
  (loopM (ρ := Unit ⊕ Bool) (fun (v : Int) =>
  if v < (a.length : Int) then
  chk ((0 ≤ v ∧ v < a.length) ∧ (0 ≤ v ∧ v < b.length)) <|
  if a.getD v.toNat 0 ≠ b.getD v.toNat 0 then
  some (.inr (.inr false))
 else
  some (.inl (v + 1))
 else
  some (.inr (.inl ()))) 0).bind fun z => match z with
  | .inl _ => (some true)
  | .inr rr => some rr

end Go.SH

set_option linter.unusedVariables false
set_option linter.unusedSimpArgs false
namespace Go.SH
open Go Go.AX

noncomputable def slices_IndexFunc_int_int (s : List Int) (f : Int → Option (Bool)) : Option (Int) :=
  (loopM (ρ := Unit ⊕ Int) (fun (v : Int) =>
  if v < (s.length : Int) then
  chk ((0 ≤ v ∧ v < s.length)) <|
  (f (s.getD v.toNat 0)).bind fun y =>
  if y = true then
  some (.inr (.inr v))
 else
  some (.inl (v + 1))
 else
  some (.inr (.inl ()))) 0).bind fun z => match z with
  | .inl _ => (some (-1))
  | .inr rr => some rr

noncomputable def slices_ContainsFunc_int_int (s : List Int) (f : Int → Option (Bool)) : Option (Bool) :=
  (slices_IndexFunc_int_int s f).bind fun y =>
  some (decide (0 ≤ y))

end Go.SH

set_option linter.unusedVariables false
set_option linter.unusedSimpArgs false
namespace Go.SH
open Go Go.AX

noncomputable def sets_Family (n : Int) (l : List Int) : Option (Int) :=
  if (n < 0 ∨ 8 < n) then
  some 1
 else
  (loopM (ρ := Unit ⊕ Int) (fun (v : Int) =>
  if v < (l.length : Int) then
  chk ((0 ≤ v ∧ v < l.length)) <|
  chk (((¬ (l.getD v.toNat 0 < 0)) → (0 ≤ n ∧ n ≤ 62)) ∧ (((¬ ((l.getD v.toNat 0 < 0 ∨ (2 ^ n.toNat : Int) ≤ l.getD v.toNat 0))) ∧ 0 < v) → (-9223372036854775808 ≤ (v - 1 : Int) ∧ (v - 1 : Int) ≤ 9223372036854775807)) ∧ (((¬ ((l.getD v.toNat 0 < 0 ∨ (2 ^ n.toNat : Int) ≤ l.getD v.toNat 0))) ∧ 0 < v) → (0 ≤ v - 1 ∧ v - 1 < l.length))) <|
  if ((l.getD v.toNat 0 < 0 ∨ (2 ^ n.toNat : Int) ≤ l.getD v.toNat 0) ∨ (0 < v ∧ l.getD v.toNat 0 ≤ l.getD (v - 1).toNat 0)) then
  some (.inr (.inr 1))
 else
  some (.inl (v + 1))
 else
  some (.inr (.inl ()))) 0).bind fun z => match z with
  | .inl _ => (some 0)
  | .inr rr => some rr

noncomputable def sets_Most_1 (t : Int) (c0 : Int) : Option (Bool) :=
  some (decide ((t ≠ c0 ∧ iand t c0 = c0)))

noncomputable def sets_Most (n : Int) (l : List Int) : Option (List Int × Int) :=
  (sets_Family n l).bind fun y =>
  if y ≠ 0 then
  some ([], y)
 else
  (loopM (ρ := List Int) (fun ((out0, v) : List Int × Int) =>
  if v < (l.length : Int) then
  chk ((0 ≤ v ∧ v < l.length)) <|
  (slices_ContainsFunc_int_int l (fun x0 => sets_Most_1 x0 (l.getD v.toNat 0))).bind fun y1 =>
  if ¬ (y1 = true) then
  chk (((out0 ++ [l.getD v.toNat 0]).length ≤ 8796093022208)) <|
  some (.inl (out0 ++ [l.getD v.toNat 0], v + 1))
 else
  some (.inl (out0, v + 1))
 else
  some (.inr out0)) ([], 0)).bind fun (out01 : List Int) =>
  some (out01, 0)

noncomputable def sets_least_1 (t : Int) (c0 : Int) : Option (Bool) :=
  some (decide ((t ≠ c0 ∧ iand t c0 = t)))

noncomputable def sets_least (l : List Int) : Option (List Int) :=
  (loopM (ρ := List Int) (fun ((out0, v) : List Int × Int) =>
  if v < (l.length : Int) then
  chk ((0 ≤ v ∧ v < l.length)) <|
  (slices_ContainsFunc_int_int l (fun x0 => sets_least_1 x0 (l.getD v.toNat 0))).bind fun y =>
  if ¬ (y = true) then
  chk (((out0 ++ [l.getD v.toNat 0]).length ≤ 8796093022208)) <|
  some (.inl (out0 ++ [l.getD v.toNat 0], v + 1))
 else
  some (.inl (out0, v + 1))
 else
  some (.inr out0)) ([], 0)).bind fun (out01 : List Int) =>
  some out01

noncomputable def sets_Least (n : Int) (l : List Int) : Option (List Int × Int) :=
  (sets_Family n l).bind fun y =>
  if y ≠ 0 then
  some ([], y)
 else
  (sets_least l).bind fun y1 =>
  some (y1, 0)

end Go.SH
