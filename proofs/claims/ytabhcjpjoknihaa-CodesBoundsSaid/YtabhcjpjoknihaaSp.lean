/-
  Functions of the program as plain functions: field_twin, field_inverse. By a program of mine (shal.py). Functions of the program as plain functions: kinds_CheckMatrix. By a program of mine (shal.py). Functions of the program as plain functions: field_reduced, field_Reduced, field_Rank. By a program of mine (shal.py). Functions of the program as plain functions: codes_Weights_1, codes_each_1, codes_each, codes_Weights, codes_Distance. By a program of mine (shal.py).  Conditions: none.
-/
import Derived.Test.YtabhcjpjoknihaaAxN

set_option linter.unusedVariables false
set_option linter.unusedSimpArgs false
namespace Go.SH
open Go Go.AX

noncomputable def field_twin (x_0 : Int) (x_1 : Int) (x_2 : List (List Int)) : Option (Int × Int × List (List Int)) :=
  (loopM (ρ := List (List Int)) (fun ((out0, v) : List (List Int) × Int) =>
  if v < (x_2.length : Int) then
  chk ((0 ≤ v ∧ v < x_2.length)) <|
  chk (((x_2.getD v.toNat []).length ≤ 17592186044416)) <|
  chk (((out0 ++ [(x_2.getD v.toNat [])]).length ≤ 1099511627776)) <|
  some (.inl (out0 ++ [(x_2.getD v.toNat [])], v + 1))
 else
  some (.inr out0)) (([] : List (List Int)), 0)).bind fun (out01 : List (List Int)) =>
  some (x_0, x_1, out01)

noncomputable def field_inverse (a : Int) (p : Int) : Option (Int) :=
  (loopM (ρ := Unit ⊕ Int) (fun (b : Int) =>
  if b < p then
  chk ((-9223372036854775808 ≤ (a * b : Int) ∧ (a * b : Int) ≤ 9223372036854775807) ∧ p ≠ 0) <|
  if Int.tmod (a * b) p = 1 then
  some (.inr (.inr b))
 else
  some (.inl (b + 1))
 else
  some (.inr (.inl ()))) 1).bind fun z => match z with
  | .inl _ => (some 0)
  | .inr rr => some rr

end Go.SH

set_option linter.unusedVariables false
set_option linter.unusedSimpArgs false
namespace Go.SH
open Go Go.AX

noncomputable def kinds_CheckMatrix (x_0 : Int) (x_1 : Int) (x_2 : List (List Int)) : Option (Int) :=
  if ((((((x_0 ≠ 2 ∧ x_0 ≠ 3) ∧ x_0 ≠ 5) ∧ x_0 ≠ 7) ∨ x_1 < 0) ∨ 8 < x_1) ∨ 6 < (x_2.length : Int)) then
  some 1
 else
  (loopM (ρ := Unit ⊕ Int) (fun (v : Int) =>
  if v < (x_2.length : Int) then
  chk ((0 ≤ v ∧ v < x_2.length)) <|
  if ((x_2.getD v.toNat []).length : Int) ≠ x_1 then
  some (.inr (.inr 1))
 else
  (loopM (ρ := Unit ⊕ Int) (fun (v1 : Int) =>
  if v1 < ((x_2.getD v.toNat []).length : Int) then
  chk ((0 ≤ v1 ∧ v1 < (x_2.getD v.toNat []).length)) <|
  if ((x_2.getD v.toNat []).getD v1.toNat 0 < 0 ∨ x_0 ≤ (x_2.getD v.toNat []).getD v1.toNat 0) then
  some (.inr (.inr 1))
 else
  some (.inl (v1 + 1))
 else
  some (.inr (.inl ()))) 0).bind fun z => match z with
  | .inl _ => (some (.inl (v + 1)))
  | .inr rr => some (.inr (.inr rr))
 else
  some (.inr (.inl ()))) 0).bind fun z => match z with
  | .inl _ => (some 0)
  | .inr rr => some rr

end Go.SH

set_option linter.unusedVariables false
set_option linter.unusedSimpArgs false
namespace Go.SH
open Go Go.AX

noncomputable def field_reduced (q0 : Int × Int × List (List Int)) : Option (List Int × (Int × Int × List (List Int))) :=
  (loopM (ρ := List (List Int) × List Int) (fun ((q01, v, v1) : List (List Int) × List Int × Int) =>
  if (v1 < q0.2.1 ∧ (v.length : Int) < (q01.length : Int)) then
  (loopM (ρ := Int) (fun (v3 : Int) =>
  chk (((v3 < (q01.length : Int)) → (0 ≤ v3 ∧ v3 < q01.length)) ∧ ((v3 < (q01.length : Int)) → (0 ≤ v1 ∧ v1 < ((q01.getD v3.toNat []).length)))) <|
  if (v3 < (q01.length : Int) ∧ (q01.getD v3.toNat []).getD v1.toNat 0 = 0) then
  chk ((-9223372036854775808 ≤ (v3 + 1 : Int) ∧ (v3 + 1 : Int) ≤ 9223372036854775807)) <|
  some (.inl (v3 + 1))
 else
  some (.inr v3)) (v.length : Int)).bind fun (v4 : Int) =>
  if v4 = (q01.length : Int) then
  chk ((-9223372036854775808 ≤ (v1 + 1 : Int) ∧ (v1 + 1 : Int) ≤ 9223372036854775807)) <|
  some (.inl (q01, v, v1 + 1))
 else
  chk ((0 ≤ v4 ∧ v4 < q01.length)) <|
  chk ((0 ≤ (v.length : Int) ∧ (v.length : Int) < q01.length)) <|
  chk ((0 ≤ (v.length : Int) ∧ (v.length : Int) < q01.length)) <|
  chk ((0 ≤ v4 ∧ v4 < q01.length)) <|
  chk ((0 ≤ (v.length : Int) ∧ (v.length : Int) < q01.length) ∧ (0 ≤ v1 ∧ v1 < ((((q01.set ((v.length : Int).toNat) (q01.getD v4.toNat [])).set v4.toNat (q01.getD ((v.length : Int).toNat) [])).getD ((v.length : Int).toNat) []).length))) <|
  (field_inverse ((((q01.set ((v.length : Int).toNat) (q01.getD v4.toNat [])).set v4.toNat (q01.getD ((v.length : Int).toNat) [])).getD ((v.length : Int).toNat) []).getD v1.toNat 0) q0.1).bind fun y =>
  chk ((0 ≤ (v.length : Int) ∧ (v.length : Int) < q01.length)) <|
  (loopM (ρ := List (List Int)) (fun ((q03, v5) : List (List Int) × Int) =>
  if v5 < ((((q01.set ((v.length : Int).toNat) (q01.getD v4.toNat [])).set v4.toNat (q01.getD ((v.length : Int).toNat) [])).getD ((v.length : Int).toNat) []).length : Int) then
  chk ((0 ≤ (v.length : Int) ∧ (v.length : Int) < q03.length) ∧ (0 ≤ v5 ∧ v5 < ((q03.getD ((v.length : Int).toNat) []).length)) ∧ (-9223372036854775808 ≤ (((q03.getD ((v.length : Int).toNat) []).getD v5.toNat 0) * y : Int) ∧ (((q03.getD ((v.length : Int).toNat) []).getD v5.toNat 0) * y : Int) ≤ 9223372036854775807) ∧ q0.1 ≠ 0) <|
  some (.inl (q03.set ((v.length : Int).toNat) ((q03.getD ((v.length : Int).toNat) []).set v5.toNat (Int.tmod (((q03.getD ((v.length : Int).toNat) []).getD v5.toNat 0) * y) q0.1)), v5 + 1))
 else
  some (.inr q03)) ((q01.set ((v.length : Int).toNat) (q01.getD v4.toNat [])).set v4.toNat (q01.getD ((v.length : Int).toNat) []), 0)).bind fun (q04 : List (List Int)) =>
  (loopM (ρ := List (List Int)) (fun ((q05, v6) : List (List Int) × Int) =>
  if v6 < (q04.length : Int) then
  chk ((0 ≤ v6 ∧ v6 < q05.length) ∧ (0 ≤ v1 ∧ v1 < ((q05.getD v6.toNat []).length))) <|
  if (v6 = (v.length : Int) ∨ (q05.getD v6.toNat []).getD v1.toNat 0 = 0) then
  some (.inl (q05, v6 + 1))
 else
  chk ((0 ≤ v6 ∧ v6 < q05.length)) <|
  (loopM (ρ := List (List Int)) (fun ((q07, v7) : List (List Int) × Int) =>
  if v7 < ((q05.getD v6.toNat []).length : Int) then
  chk ((0 ≤ v6 ∧ v6 < q07.length) ∧ (0 ≤ v7 ∧ v7 < ((q07.getD v6.toNat []).length)) ∧ (-9223372036854775808 ≤ (q0.1 - ((q05.getD v6.toNat []).getD v1.toNat 0) : Int) ∧ (q0.1 - ((q05.getD v6.toNat []).getD v1.toNat 0) : Int) ≤ 9223372036854775807) ∧ (0 ≤ (v.length : Int) ∧ (v.length : Int) < q07.length) ∧ (0 ≤ v7 ∧ v7 < ((q07.getD ((v.length : Int).toNat) []).length)) ∧ (-9223372036854775808 ≤ ((q0.1 - ((q05.getD v6.toNat []).getD v1.toNat 0)) * ((q07.getD ((v.length : Int).toNat) []).getD v7.toNat 0) : Int) ∧ ((q0.1 - ((q05.getD v6.toNat []).getD v1.toNat 0)) * ((q07.getD ((v.length : Int).toNat) []).getD v7.toNat 0) : Int) ≤ 9223372036854775807) ∧ (-9223372036854775808 ≤ (((q07.getD v6.toNat []).getD v7.toNat 0) + ((q0.1 - ((q05.getD v6.toNat []).getD v1.toNat 0)) * ((q07.getD ((v.length : Int).toNat) []).getD v7.toNat 0)) : Int) ∧ (((q07.getD v6.toNat []).getD v7.toNat 0) + ((q0.1 - ((q05.getD v6.toNat []).getD v1.toNat 0)) * ((q07.getD ((v.length : Int).toNat) []).getD v7.toNat 0)) : Int) ≤ 9223372036854775807) ∧ q0.1 ≠ 0) <|
  chk ((-9223372036854775808 ≤ (v7 + 1 : Int) ∧ (v7 + 1 : Int) ≤ 9223372036854775807)) <|
  some (.inl (q07.set v6.toNat ((q07.getD v6.toNat []).set v7.toNat (Int.tmod (((q07.getD v6.toNat []).getD v7.toNat 0) + ((q0.1 - ((q05.getD v6.toNat []).getD v1.toNat 0)) * ((q07.getD ((v.length : Int).toNat) []).getD v7.toNat 0))) q0.1)), v7 + 1))
 else
  some (.inr q07)) (q05, 0)).bind fun (q08 : List (List Int)) =>
  some (.inl (q08, v6 + 1))
 else
  some (.inr q05)) (q04, 0)).bind fun (q06 : List (List Int)) =>
  chk (((v ++ [v1]).length ≤ 8796093022208)) <|
  chk ((-9223372036854775808 ≤ (v1 + 1 : Int) ∧ (v1 + 1 : Int) ≤ 9223372036854775807)) <|
  some (.inl (q06, v ++ [v1], v1 + 1))
 else
  some (.inr (q01, v))) (q0.2.2, [], 0)).bind fun ((q02, v2) : List (List Int) × List Int) =>
  chk ((0 ≤ (v2.length : Int) ∧ (v2.length : Int) ≤ q02.length)) <|
  chk (((v2.length : Int).toNat ≤ q02.length ∧ (v2.length : Int).toNat ≤ 1099511627776)) <|
  some (v2, (q0.1, q0.2.1, q02.take ((v2.length : Int).toNat)))

noncomputable def field_Reduced (x_0 : Int) (x_1 : Int) (x_2 : List (List Int)) : Option (Int × Int × List (List Int) × Int) :=
  (kinds_CheckMatrix x_0 x_1 x_2).bind fun y =>
  if y ≠ 0 then
  some (0, 0, ([] : List (List Int)), y)
 else
  (field_twin x_0 x_1 x_2).bind fun y1 =>
  (field_reduced (y1.1, y1.2.1, y1.2.2)).bind fun y2 =>
  some (y2.2.1, y2.2.2.1, y2.2.2.2, 0)

noncomputable def field_Rank (x_0 : Int) (x_1 : Int) (x_2 : List (List Int)) : Option (Int × Int) :=
  (kinds_CheckMatrix x_0 x_1 x_2).bind fun y =>
  if y ≠ 0 then
  some (0, y)
 else
  (field_twin x_0 x_1 x_2).bind fun y1 =>
  (field_reduced (y1.1, y1.2.1, y1.2.2)).bind fun y2 =>
  some ((y2.1.length : Int), 0)

end Go.SH

set_option linter.unusedVariables false
set_option linter.unusedSimpArgs false
namespace Go.SH
open Go Go.AX

noncomputable def codes_Weights_1 (w : List Int) (q0 : List Int) : Option (List Int) :=
  (loopM (ρ := Int) (fun ((k, v) : Int × Int) =>
  if v < (w.length : Int) then
  chk ((0 ≤ v ∧ v < w.length)) <|
  chk ((-9223372036854775808 ≤ (k + (min (w.getD v.toNat 0) 1) : Int) ∧ (k + (min (w.getD v.toNat 0) 1) : Int) ≤ 9223372036854775807)) <|
  some (.inl (k + (min (w.getD v.toNat 0) 1), v + 1))
 else
  some (.inr k)) (0, 0)).bind fun (k1 : Int) =>
  chk ((0 ≤ k1 ∧ k1 < q0.length) ∧ (-9223372036854775808 ≤ ((q0.getD k1.toNat 0) + 1 : Int) ∧ ((q0.getD k1.toNat 0) + 1 : Int) ≤ 9223372036854775807)) <|
  some (q0.set k1.toNat ((q0.getD k1.toNat 0) + 1))

noncomputable def codes_each_1 : Nat → Int → Int → Int → (List (List Int)) → Int → Int → (List (List Int)) → (List Int) → (List Int) → Option (List Int × List Int)
  | 0, _, _, _, _, _, _, _, _, _ => none
  | fuel + 1, k, c0_0, c0_1, c0_2, c3_0, c3_1, c3_2, q0, q1 =>
  if k = (c0_2.length : Int) then
  (codes_Weights_1 q1 q0).bind fun y =>
  some (y, q1)
 else
  (loopM (ρ := List Int × List Int) (fun ((q01, q11, v) : List Int × List Int × Int) =>
  if v < c3_0 then
  chk ((-9223372036854775808 ≤ (k + 1 : Int) ∧ (k + 1 : Int) ≤ 9223372036854775807)) <|
  (codes_each_1 fuel (k + 1) c0_0 c0_1 c0_2 c3_0 c3_1 c3_2 q01 q11).bind fun y1 =>
  chk ((0 ≤ k ∧ k < c0_2.length)) <|
  (loopM (ρ := List Int) (fun ((q13, v1) : List Int × Int) =>
  if v1 < ((c0_2.getD k.toNat []).length : Int) then
  chk ((0 ≤ v1 ∧ v1 < (c0_2.getD k.toNat []).length)) <|
  chk ((0 ≤ v1 ∧ v1 < q13.length) ∧ (-9223372036854775808 ≤ ((q13.getD v1.toNat 0) + ((c0_2.getD k.toNat []).getD v1.toNat 0) : Int) ∧ ((q13.getD v1.toNat 0) + ((c0_2.getD k.toNat []).getD v1.toNat 0) : Int) ≤ 9223372036854775807) ∧ c3_0 ≠ 0) <|
  some (.inl (q13.set v1.toNat (Int.tmod ((q13.getD v1.toNat 0) + ((c0_2.getD k.toNat []).getD v1.toNat 0)) c3_0), v1 + 1))
 else
  some (.inr q13)) (y1.2, 0)).bind fun (q14 : List Int) =>
  some (.inl (y1.1, q14, v + 1))
 else
  some (.inr (q01, q11))) (q0, q1, 0)).bind fun ((q02, q12) : List Int × List Int) =>
  some (q02, q12)

noncomputable def codes_each (x_0 : Int) (x_1 : Int) (x_2 : List (List Int)) (q0 : List Int) : Option (Int × List Int) :=
  (field_Reduced x_0 x_1 x_2).bind fun y =>
  (loopM (ρ := Int) (fun ((n, v) : Int × Int) =>
  if v < (y.2.2.1.length : Int) then
  chk ((-9223372036854775808 ≤ (n * x_0 : Int) ∧ (n * x_0 : Int) ≤ 9223372036854775807)) <|
  chk ((-9223372036854775808 ≤ (v + 1 : Int) ∧ (v + 1 : Int) ≤ 9223372036854775807)) <|
  some (.inl (n * x_0, v + 1))
 else
  some (.inr n)) (1, 0)).bind fun (n1 : Int) =>
  if 20000 < n1 then
  some (2, q0)
 else
  chk ((0 ≤ x_1 ∧ x_1 ≤ 1099511627776)) <|
  (codes_each_1 12 0 y.1 y.2.1 y.2.2.1 x_0 x_1 x_2 q0 (List.replicate x_1.toNat 0)).bind fun y1 =>
  some (0, y1.1)

noncomputable def codes_Weights (x_0 : Int) (x_1 : Int) (x_2 : List (List Int)) : Option (List Int × Int) :=
  (kinds_CheckMatrix x_0 x_1 x_2).bind fun y =>
  if y ≠ 0 then
  some ([], y)
 else
  chk ((-9223372036854775808 ≤ (x_1 + 1 : Int) ∧ (x_1 + 1 : Int) ≤ 9223372036854775807) ∧ (0 ≤ x_1 + 1 ∧ x_1 + 1 ≤ 1099511627776)) <|
  (codes_each x_0 x_1 x_2 (List.replicate (x_1 + 1).toNat 0)).bind fun y1 =>
  if y1.1 ≠ 0 then
  some ([], y1.1)
 else
  some (y1.2, 0)

noncomputable def codes_Distance (x_0 : Int) (x_1 : Int) (x_2 : List (List Int)) : Option (Int × Int) :=
  (codes_Weights x_0 x_1 x_2).bind fun y =>
  if y.2 ≠ 0 then
  some (0, y.2)
 else
  (loopM (ρ := Unit ⊕ (Int × Int)) (fun (v : Int) =>
  if v < (y.1.length : Int) then
  chk ((0 ≤ v ∧ v < y.1.length)) <|
  if (0 < v ∧ 0 < y.1.getD v.toNat 0) then
  some (.inr (.inr (v, 0)))
 else
  chk ((-9223372036854775808 ≤ (v + 1 : Int) ∧ (v + 1 : Int) ≤ 9223372036854775807)) <|
  some (.inl (v + 1))
 else
  some (.inr (.inl ()))) 0).bind fun z => match z with
  | .inl _ => (some (0, 5))
  | .inr rr => some rr

end Go.SH
