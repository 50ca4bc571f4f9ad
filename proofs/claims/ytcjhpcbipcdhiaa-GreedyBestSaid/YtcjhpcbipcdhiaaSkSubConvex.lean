/-
  Functions of the program as plain functions: rotakeep_SubConvex. By a program of mine (shal.py). Conditions: none.
-/
import Derived.Test.YtcjhpcbipcdhiaaAxN
import Derived.Test.YtcjhpcbipcdhiaaSprotaref
import Derived.Test.YtcjhpcbipcdhiaaSpsub
set_option linter.unusedVariables false
set_option linter.unusedSimpArgs false
namespace Go.SH
open Go Go.AX

noncomputable def rotakeep_SubConvex (n : Int) (a1 : List Int) (a2 : List Int) (a3 : List Int) (a4 : Int) : Option (Bool) :=
  (sub_Extended 1 [0, 3] [2]).bind fun y =>
  if (y.2 ≠ 0 ∨ y.1 ≠ 6) then
  some false
 else
  (sub_Check n a1).bind fun y1 =>
  if y1 ≠ 0 then
  some true
 else
  joinM (fun (_ : Unit) =>
  (sub_Extended n a1 a2).bind fun y5 =>
  (sub_Extended n a1 a3).bind fun y6 =>
  if (y5.2 ≠ 0 ∨ y6.2 ≠ 0) then
  some true
 else
  chk ((0 ≤ n ∧ n ≤ 1099511627776)) <|
  (loopM (ρ := (List Int) ⊕ Bool) (fun ((v3, v4) : List Int × Int) =>
  if v4 < ((List.replicate n.toNat 0).length : Int) then
  chk ((0 ≤ v4 ∧ v4 < a2.length) ∧ (0 ≤ v4 ∧ v4 < a3.length) ∧ (-9223372036854775808 ≤ ((a2.getD v4.toNat 0) + (a3.getD v4.toNat 0) : Int) ∧ ((a2.getD v4.toNat 0) + (a3.getD v4.toNat 0) : Int) ≤ 9223372036854775807) ∧ (0 ≤ v4 ∧ v4 < v3.length)) <|
  chk ((0 ≤ v4 ∧ v4 < v3.length) ∧ ((¬ ((v3.set v4.toNat ((a2.getD v4.toNat 0) + (a3.getD v4.toNat 0))).getD v4.toNat 0 < (-1000))) → (0 ≤ v4 ∧ v4 < v3.length))) <|
  if ((v3.set v4.toNat ((a2.getD v4.toNat 0) + (a3.getD v4.toNat 0))).getD v4.toNat 0 < (-1000) ∨ 1000 < (v3.set v4.toNat ((a2.getD v4.toNat 0) + (a3.getD v4.toNat 0))).getD v4.toNat 0) then
  some (.inr (.inr true))
 else
  some (.inl (v3.set v4.toNat ((a2.getD v4.toNat 0) + (a3.getD v4.toNat 0)), v4 + 1))
 else
  some (.inr (.inl v3))) (List.replicate n.toNat 0, 0)).bind fun z => match z with
  | .inl v5 => ((sub_Extended n a1 v5).bind fun y7 =>
  chk (((y7.2 = 0) → (-9223372036854775808 ≤ (y5.1 + y6.1 : Int) ∧ (y5.1 + y6.1 : Int) ≤ 9223372036854775807))) <|
  some (decide ((y7.2 = 0 ∧ y7.1 ≤ y5.1 + y6.1))))
  | .inr rr => some rr) fun j =>
  (rotaref_IsSet n a4).bind fun y2 =>
  if y2 = true then
  chk ((0 ≤ n ∧ n ≤ 1099511627776)) <|
  (rotaref_Elements a4).bind fun y3 =>
  (loopM (ρ := List Int) (fun ((v, v1) : List Int × Int) =>
  if v1 < (y3.length : Int) then
  chk ((0 ≤ v1 ∧ v1 < y3.length)) <|
  chk ((0 ≤ y3.getD v1.toNat 0 ∧ y3.getD v1.toNat 0 < v.length)) <|
  some (.inl (v.set (y3.getD v1.toNat 0).toNat 1, v1 + 1))
 else
  some (.inr v)) (List.replicate n.toNat 0, 0)).bind fun (v2 : List Int) =>
  (sub_Extended n a1 v2).bind fun y4 =>
  chk (((¬ (y4.2 ≠ 0)) → (0 ≤ a4 ∧ a4 < a1.length))) <|
  if (y4.2 ≠ 0 ∨ y4.1 ≠ a1.getD a4.toNat 0) then
  some false
 else
  j ()
 else
  j ()

end Go.SH
