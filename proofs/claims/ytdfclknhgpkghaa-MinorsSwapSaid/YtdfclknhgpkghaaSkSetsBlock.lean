/-
  Functions of the program as plain functions: rotakeep_SetsBlock. By a program of mine (shal.py). Conditions: none.
-/
import Derived.Test.YtdfclknhgpkghaaAxN
import Derived.Test.YtdfclknhgpkghaaSprotakeep
import Derived.Test.YtdfclknhgpkghaaSprotalaw
import Derived.Test.YtdfclknhgpkghaaSpsets
import Derived.Test.YtdfclknhgpkghaaSpslices
set_option linter.unusedVariables false
set_option linter.unusedSimpArgs false
namespace Go.SH
open Go Go.AX

noncomputable def rotakeep_SetsBlock (n : Int) (a1 : List Int) : Option (Bool) :=
  (sets_Blocker 2 [3]).bind fun y =>
  if ¬ (y.2 ≠ 0) then
  (rotalaw_Same_int y.1 [1, 2]).bind fun y1 =>
  if ¬ (y1 = true) then
  some false
 else
  (sets_Blocker n a1).bind fun y2 =>
  (sets_Least n a1).bind fun y3 =>
  (sets_Shadow n a1).bind fun y4 =>
  if y2.2 ≠ 0 then
  chk (((y2.2 = y3.2 ∧ y3.2 = y4.2) → (-9223372036854775808 ≤ ((y2.1.length : Int) + (y3.1.length : Int) : Int) ∧ ((y2.1.length : Int) + (y3.1.length : Int) : Int) ≤ 9223372036854775807)) ∧ ((y2.2 = y3.2 ∧ y3.2 = y4.2) → (-9223372036854775808 ≤ (((y2.1.length : Int) + (y3.1.length : Int)) + (y4.1.length : Int) : Int) ∧ (((y2.1.length : Int) + (y3.1.length : Int)) + (y4.1.length : Int) : Int) ≤ 9223372036854775807))) <|
  some (decide (((y2.2 = y3.2 ∧ y3.2 = y4.2) ∧ ((y2.1.length : Int) + (y3.1.length : Int)) + (y4.1.length : Int) = 0)))
 else
  (sets_Blocker n y2.1).bind fun y5 =>
  (sets_Least n y3.1).bind fun y6 =>
  (if ¬ ((((y5.2 ≠ 0 ∨ y3.2 ≠ 0) ∨ y4.2 ≠ 0) ∨ y6.2 ≠ 0)) then rotalaw_Same_int y5.1 y3.1 else some false).bind fun y7 =>
  (if ¬ (((((y5.2 ≠ 0 ∨ y3.2 ≠ 0) ∨ y4.2 ≠ 0) ∨ y6.2 ≠ 0) ∨ ¬ (y7 = true))) then rotalaw_Same_int y6.1 y3.1 else some false).bind fun y8 =>
  if (((((y5.2 ≠ 0 ∨ y3.2 ≠ 0) ∨ y4.2 ≠ 0) ∨ y6.2 ≠ 0) ∨ ¬ (y7 = true)) ∨ ¬ (y8 = true)) then
  some false
 else
  (loopM (ρ := Unit ⊕ Bool) (fun (v : Int) =>
  if v < (y4.1.length : Int) then
  chk ((0 ≤ v ∧ v < y4.1.length)) <|
  (slices_ContainsFunc_int_int a1 (fun x0 => rotakeep_SetsBlock_1 x0 (y4.1.getD v.toNat 0))).bind fun y9 =>
  if ¬ (y9 = true) then
  some (.inr (.inr false))
 else
  some (.inl (v + 1))
 else
  some (.inr (.inl ()))) 0).bind fun z => match z with
  | .inl _ => (some true)
  | .inr rr => some rr
 else
  some false

end Go.SH
