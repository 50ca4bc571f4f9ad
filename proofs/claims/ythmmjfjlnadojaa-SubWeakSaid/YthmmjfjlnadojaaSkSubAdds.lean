/-
  Functions of the program as plain functions: rotakeep_SubAdds. By a program of mine (shal.py). Conditions: none.
-/
import Derived.Test.YthmmjfjlnadojaaAxN
import Derived.Test.YthmmjfjlnadojaaSpsub
set_option linter.unusedVariables false
set_option linter.unusedSimpArgs false
namespace Go.SH
open Go Go.AX

noncomputable def rotakeep_SubAdds (n : Int) (a1 : List Int) (a2 : List Int) : Option (Bool) :=
  (sub_Least 1 [0, (-2)]).bind fun y =>
  if (y.2.2.2 ≠ 0 ∨ y.1 ≠ (-2)) then
  some false
 else
  (sub_Check n a1).bind fun y1 =>
  (if ¬ (y1 ≠ 0) then sub_Check n a2 else some 0).bind fun y2 =>
  if (y1 ≠ 0 ∨ y2 ≠ 0) then
  some true
 else
  (loopM (ρ := (List Int) ⊕ Bool) (fun ((v, v1) : List Int × Int) =>
  if v1 < (a1.length : Int) then
  chk ((0 ≤ v1 ∧ v1 < a1.length) ∧ (0 ≤ v1 ∧ v1 < a2.length) ∧ (-9223372036854775808 ≤ ((a1.getD v1.toNat 0) + (a2.getD v1.toNat 0) : Int) ∧ ((a1.getD v1.toNat 0) + (a2.getD v1.toNat 0) : Int) ≤ 9223372036854775807)) <|
  if ((a1.getD v1.toNat 0) + (a2.getD v1.toNat 0) < (-1000) ∨ 1000 < (a1.getD v1.toNat 0) + (a2.getD v1.toNat 0)) then
  some (.inr (.inr true))
 else
  chk (((v ++ [(a1.getD v1.toNat 0) + (a2.getD v1.toNat 0)]).length ≤ 1099511627776)) <|
  some (.inl (v ++ [(a1.getD v1.toNat 0) + (a2.getD v1.toNat 0)], v1 + 1))
 else
  some (.inr (.inl v))) ([], 0)).bind fun z => match z with
  | .inl v2 => ((sub_Least n a1).bind fun y3 =>
  (sub_Least n a2).bind fun y4 =>
  (sub_Least n v2).bind fun y5 =>
  chk ((((y3.2.2.2 = 0 ∧ y4.2.2.2 = 0) ∧ y5.2.2.2 = 0) → (-9223372036854775808 ≤ (y3.1 + y4.1 : Int) ∧ (y3.1 + y4.1 : Int) ≤ 9223372036854775807))) <|
  some (decide ((((y3.2.2.2 = 0 ∧ y4.2.2.2 = 0) ∧ y5.2.2.2 = 0) ∧ y3.1 + y4.1 ≤ y5.1))))
  | .inr rr => some rr

end Go.SH
