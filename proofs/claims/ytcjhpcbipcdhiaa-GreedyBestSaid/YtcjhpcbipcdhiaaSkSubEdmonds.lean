/-
  Functions of the program as plain functions: rotakeep_SubEdmonds. By a program of mine (shal.py). Conditions: none.
-/
import Derived.Test.YtcjhpcbipcdhiaaAxN
import Derived.Test.YtcjhpcbipcdhiaaSprotalaw
import Derived.Test.YtcjhpcbipcdhiaaSprotaref
import Derived.Test.YtcjhpcbipcdhiaaSpsub
set_option linter.unusedVariables false
set_option linter.unusedSimpArgs false
namespace Go.SH
open Go Go.AX

noncomputable def rotakeep_SubEdmonds (n : Int) (a1 : List Int) (a2 : List Int) (a3 : List Int) (a4 : List Int) : Option (Bool) :=
  (sub_Vertex 1 [0, 3] [0]).bind fun y =>
  if ¬ (y.2 ≠ 0) then
  (rotalaw_Same_int y.1 [3]).bind fun y1 =>
  if ¬ (y1 = true) then
  some false
 else
  (sub_Vertex n a1 a2).bind fun y2 =>
  if y2.2 ≠ 0 then
  some (decide ((y2.1.length : Int) = 0))
 else
  (loopM (ρ := Unit ⊕ Bool) (fun (v : Int) =>
  if v < (a1.length : Int) then
  (rotaref_Weighs y2.1 v).bind fun y3 =>
  chk ((0 ≤ v ∧ v < a1.length)) <|
  if a1.getD v.toNat 0 < y3 then
  some (.inr (.inr false))
 else
  some (.inl (v + 1))
 else
  some (.inr (.inl ()))) 0).bind fun z => match z with
  | .inl _ => ((rotaref_All n).bind fun y4 =>
  (rotaref_Weighs y2.1 y4).bind fun y5 =>
  (rotaref_All n).bind fun y6 =>
  chk ((0 ≤ y6 ∧ y6 < a1.length)) <|
  if y5 ≠ a1.getD y6.toNat 0 then
  some false
 else
  (sub_Extended n a1 a4).bind fun y7 =>
  if y7.2 ≠ 0 then
  some (decide (y7.1 = 0))
 else
  (loopM (ρ := Int) (fun ((v1, v2) : Int × Int) =>
  if v2 < (y2.1.length : Int) then
  chk ((0 ≤ v2 ∧ v2 < y2.1.length) ∧ (0 ≤ v2 ∧ v2 < a4.length) ∧ (-9223372036854775808 ≤ ((y2.1.getD v2.toNat 0) * (a4.getD v2.toNat 0) : Int) ∧ ((y2.1.getD v2.toNat 0) * (a4.getD v2.toNat 0) : Int) ≤ 9223372036854775807) ∧ (-9223372036854775808 ≤ (v1 + ((y2.1.getD v2.toNat 0) * (a4.getD v2.toNat 0)) : Int) ∧ (v1 + ((y2.1.getD v2.toNat 0) * (a4.getD v2.toNat 0)) : Int) ≤ 9223372036854775807)) <|
  some (.inl (v1 + ((y2.1.getD v2.toNat 0) * (a4.getD v2.toNat 0)), v2 + 1))
 else
  some (.inr v1)) (0, 0)).bind fun (v3 : Int) =>
  (sub_Vertex n a1 a3).bind fun y8 =>
  if y8.2 = 0 then
  (loopM (ρ := Int) (fun ((v4, v5) : Int × Int) =>
  if v5 < (y8.1.length : Int) then
  chk ((0 ≤ v5 ∧ v5 < y8.1.length) ∧ (0 ≤ v5 ∧ v5 < a4.length) ∧ (-9223372036854775808 ≤ ((y8.1.getD v5.toNat 0) * (a4.getD v5.toNat 0) : Int) ∧ ((y8.1.getD v5.toNat 0) * (a4.getD v5.toNat 0) : Int) ≤ 9223372036854775807) ∧ (-9223372036854775808 ≤ (v4 + ((y8.1.getD v5.toNat 0) * (a4.getD v5.toNat 0)) : Int) ∧ (v4 + ((y8.1.getD v5.toNat 0) * (a4.getD v5.toNat 0)) : Int) ≤ 9223372036854775807)) <|
  some (.inl (v4 + ((y8.1.getD v5.toNat 0) * (a4.getD v5.toNat 0)), v5 + 1))
 else
  some (.inr v4)) (0, 0)).bind fun (v6 : Int) =>
  if y7.1 < v6 then
  some false
 else
  some (decide (v3 ≤ y7.1))
 else
  some (decide (v3 ≤ y7.1)))
  | .inr rr => some rr
 else
  some false

end Go.SH
