/-
  Functions of the program as plain functions: rotakeep_ComplexShelled. By a program of mine (shal.py). Conditions: none.
-/
import Derived.Test.YtcjhpcbipcdhiaaAxN
import Derived.Test.YtcjhpcbipcdhiaaSpcomplex
import Derived.Test.YtcjhpcbipcdhiaaSprotalaw
import Derived.Test.YtcjhpcbipcdhiaaSprotaref
set_option linter.unusedVariables false
set_option linter.unusedSimpArgs false
namespace Go.SH
open Go Go.AX

noncomputable def rotakeep_ComplexShelled (n : Int) (a1 : List Int) (a2 : List Int) : Option (Bool) :=
  (complex_Shells 4 [3, 12] [3, 12]).bind fun y =>
  if (y.2 ≠ 0 ∨ y.1 = true) then
  some false
 else
  (complex_Shells n a1 a2).bind fun y1 =>
  (complex_Restriction n a1 a2).bind fun y2 =>
  if (y1.2 ≠ 0 ∨ ¬ (y1.1 = true)) then
  some (decide (((y2.1.length : Int) = 0 ∧ y2.2 ≠ 0)))
 else
  (complex_H n a1).bind fun y3 =>
  (complex_Faces n a1).bind fun y4 =>
  if (((y2.2 ≠ 0 ∨ y3.2 ≠ 0) ∨ y4.2 ≠ 0) ∨ (y2.1.length : Int) ≠ (a2.length : Int)) then
  some false
 else
  (loopM (ρ := Unit ⊕ Bool) (fun (v : Int) =>
  if v < (y4.1.length : Int) then
  chk ((0 ≤ v ∧ v < y4.1.length)) <|
  (loopM (ρ := Int) (fun ((v1, v2) : Int × Int) =>
  if v2 < (a2.length : Int) then
  chk ((0 ≤ v2 ∧ v2 < a2.length)) <|
  chk ((0 ≤ v2 ∧ v2 < y2.1.length)) <|
  (rotaref_Within (y2.1.getD v2.toNat 0) (y4.1.getD v.toNat 0)).bind fun y5 =>
  (if y5 = true then rotaref_Within (y4.1.getD v.toNat 0) (a2.getD v2.toNat 0) else some false).bind fun y6 =>
  if (y5 = true ∧ y6 = true) then
  chk ((-9223372036854775808 ≤ (v1 + 1 : Int) ∧ (v1 + 1 : Int) ≤ 9223372036854775807)) <|
  some (.inl (v1 + 1, v2 + 1))
 else
  some (.inl (v1, v2 + 1))
 else
  some (.inr v1)) (0, 0)).bind fun (v3 : Int) =>
  if v3 ≠ 1 then
  some (.inr (.inr false))
 else
  some (.inl (v + 1))
 else
  some (.inr (.inl ()))) 0).bind fun z => match z with
  | .inl _ => (chk ((0 ≤ (y3.1.length : Int) ∧ (y3.1.length : Int) ≤ 1099511627776)) <|
  (loopM (ρ := List Int) (fun ((v4, v5) : List Int × Int) =>
  if v5 < (y2.1.length : Int) then
  chk ((0 ≤ v5 ∧ v5 < y2.1.length)) <|
  (rotaref_Size (y2.1.getD v5.toNat 0)).bind fun y7 =>
  chk ((0 ≤ y7 ∧ y7 < v4.length) ∧ (-9223372036854775808 ≤ ((v4.getD y7.toNat 0) + 1 : Int) ∧ ((v4.getD y7.toNat 0) + 1 : Int) ≤ 9223372036854775807)) <|
  some (.inl (v4.set y7.toNat ((v4.getD y7.toNat 0) + 1), v5 + 1))
 else
  some (.inr v4)) (List.replicate (y3.1.length : Int).toNat 0, 0)).bind fun (v6 : List Int) =>
  (rotalaw_Same_int y3.1 v6).bind fun y8 =>
  some y8)
  | .inr rr => some rr

end Go.SH
