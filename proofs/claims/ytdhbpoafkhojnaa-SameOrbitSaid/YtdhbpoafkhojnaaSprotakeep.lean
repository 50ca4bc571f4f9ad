/-
  Functions of the program as plain functions: rotakeep_SameOrbit_1_1, rotakeep_SameOrbit_1. By a program of mine (shal.py). Conditions: none.
-/
import Derived.Test.YtdhbpoafkhojnaaAxN
import Derived.Test.YtdhbpoafkhojnaaSprotalaw
import Derived.Test.YtdhbpoafkhojnaaSpsamer
import Derived.Test.YtdhbpoafkhojnaaSpslices
set_option linter.unusedVariables false
set_option linter.unusedSimpArgs false
namespace Go.SH
open Go Go.AX

noncomputable def rotakeep_SameOrbit_1_1 (y : List Int) (c0_0 : Int) (c0_1 : List Int) : Option (Bool) :=
  (rotalaw_Same_int c0_1 y).bind fun y1 =>
  some y1

noncomputable def rotakeep_SameOrbit_1 : Nat → Int → (List Int) → (List Int) → Int → (List (List Int)) → Option (Bool × List Int × Int × List (List Int))
  | 0, _, _, _, _, _ => none
  | fuel + 1, c1_0, c1_1, q0, q1, q2 =>
  if (q0.length : Int) = c1_0 then
  chk ((-9223372036854775808 ≤ (q1 + 1 : Int) ∧ (q1 + 1 : Int) ≤ 9223372036854775807)) <|
  (same_Rename c1_0 c1_1 q0).bind fun y =>
  if y.2.2 ≠ 0 then
  some (false, q0, q1 + 1, q2)
 else
  joinM (fun (q21 : List (List Int)) =>
  some (true, q0, q1 + 1, q21)) fun j =>
  (slices_ContainsFunc_rows_int q2 (fun x0 => rotakeep_SameOrbit_1_1 x0 y.1 y.2.1)).bind fun y1 =>
  if ¬ (y1 = true) then
  chk (((q2 ++ [y.2.1]).length ≤ 1099511627776)) <|
  j (q2 ++ [y.2.1])
 else
  j q2
 else
  (loopM (ρ := (List Int × Int × List (List Int)) ⊕ (Bool × List Int × Int × List (List Int))) (fun ((q01, q11, q22, v) : List Int × Int × List (List Int) × Int) =>
  if v < c1_0 then
  (slices_Contains_int_int q01 v).bind fun y2 =>
  if y2 = true then
  some (.inl (q01, q11, q22, v + 1))
 else
  chk (((q01 ++ [v]).length ≤ 8796093022208)) <|
  (rotakeep_SameOrbit_1 fuel c1_0 c1_1 (q01 ++ [v]) q11 q22).bind fun y3 =>
  chk ((-9223372036854775808 ≤ (((y3.2.1).length : Int) - 1 : Int) ∧ (((y3.2.1).length : Int) - 1 : Int) ≤ 9223372036854775807) ∧ (0 ≤ ((y3.2.1).length : Int) - 1 ∧ ((y3.2.1).length : Int) - 1 ≤ ((y3.2.1).length))) <|
  if ¬ (y3.1 = true) then
  some (.inr (.inr (false, List.take ((((y3.2.1).length : Int) - 1).toNat) y3.2.1, y3.2.2.1, y3.2.2.2)))
 else
  some (.inl (List.take ((((y3.2.1).length : Int) - 1).toNat) y3.2.1, y3.2.2.1, y3.2.2.2, v + 1))
 else
  some (.inr (.inl (q01, q11, q22)))) (q0, q1, q2, 0)).bind fun z => match z with
  | .inl (q02, q12, q23) => (some (true, q02, q12, q23))
  | .inr rr => some rr

end Go.SH
