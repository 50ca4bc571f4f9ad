/-
  Functions of the program as plain functions: rotakeep_SubLeasts. By a program of mine (shal.py). Conditions: none.
-/
import Derived.Test.YtdfclknhgpkghaaAxN
import Derived.Test.YtdfclknhgpkghaaSpaxioms
import Derived.Test.YtdfclknhgpkghaaSprotaref
import Derived.Test.YtdfclknhgpkghaaSpslices
import Derived.Test.YtdfclknhgpkghaaSpsub
set_option linter.unusedVariables false
set_option linter.unusedSimpArgs false
namespace Go.SH
open Go Go.AX

noncomputable def rotakeep_SubLeasts (n : Int) (a1 : List Int) (a2_0 : Int) (a2_1 : List (Int × Int)) (a3 : List Int) : Option (Bool) :=
  (sub_Least 1 [0, (-3)]).bind fun y =>
  if (((y.2.2.2 ≠ 0 ∨ y.1 ≠ (-3)) ∨ y.2.1 ≠ 1) ∨ y.2.2.1 ≠ 1) then
  some false
 else
  (sub_Least n a1).bind fun y1 =>
  chk (((y1.2.2.2 = 0) → (0 ≤ y1.2.1 ∧ y1.2.1 < a1.length)) ∧ (((y1.2.2.2 = 0) ∧ ¬ (a1.getD y1.2.1.toNat 0 ≠ y1.1)) → (0 ≤ y1.2.2.1 ∧ y1.2.2.1 < a1.length))) <|
  (if ((y1.2.2.2 = 0) ∧ ¬ ((a1.getD y1.2.1.toNat 0 ≠ y1.1 ∨ a1.getD y1.2.2.1.toNat 0 ≠ y1.1))) then slices_Min_int_int a1 else some 0).bind fun y2 =>
  (if ((y1.2.2.2 = 0) ∧ ¬ (((a1.getD y1.2.1.toNat 0 ≠ y1.1 ∨ a1.getD y1.2.2.1.toNat 0 ≠ y1.1) ∨ y2 ≠ y1.1))) then rotaref_Within y1.2.1 y1.2.2.1 else some false).bind fun y3 =>
  if (y1.2.2.2 = 0 ∧ (((a1.getD y1.2.1.toNat 0 ≠ y1.1 ∨ a1.getD y1.2.2.1.toNat 0 ≠ y1.1) ∨ y2 ≠ y1.1) ∨ ¬ (y3 = true))) then
  some false
 else
  (sub_Induced n a1).bind fun y4 =>
  (if y4.2.2 = 0 then axioms_Check y4.1 y4.2.1 else some 0).bind fun y5 =>
  if ((y4.2.2 = 0 ∧ y5 ≠ 0) ∨ (y4.2.2 ≠ 0 ∧ y4.1 ≠ 0)) then
  some false
 else
  (sub_Cuts a2_0 a2_1 a3).bind fun y6 =>
  if y6.2 ≠ 0 then
  some (decide ((y6.1.length : Int) = 0))
 else
  (sub_Check a2_0 y6.1).bind fun y7 =>
  some (decide (y7 = 0))

end Go.SH
