/-
  Functions of the program as plain functions: rotakeep_ComplexMacaulay. By a program of mine (shal.py). Conditions: none.
-/
import Derived.Test.YtlpikingpnenkaaAxN
import Derived.Test.YtlpikingpnenkaaSp
import Derived.Test.YtlpikingpnenkaaSprotakeep
set_option linter.unusedVariables false
set_option linter.unusedSimpArgs false
namespace Go.SH
open Go Go.AX

noncomputable def rotakeep_ComplexMacaulay (n : Int) (a1 : List Int) (a2 : List Int) : Option (Bool) :=
  (complex_Shells 2 [1, 2] [2, 1]).bind fun y =>
  if (y.2 ≠ 0 ∨ ¬ (y.1 = true)) then
  some false
 else
  (complex_Shells n a1 a2).bind fun y1 =>
  if (y1.2 ≠ 0 ∨ ¬ (y1.1 = true)) then
  some (decide (¬ (y1.1 = true)))
 else
  (complex_H n a1).bind fun y2 =>
  chk (((¬ (y2.2 ≠ 0)) → (0 ≤ 0 ∧ 0 < y2.1.length))) <|
  if (y2.2 ≠ 0 ∨ y2.1.getD 0 0 ≠ 1) then
  some false
 else
  (loopM (ρ := Unit ⊕ Bool) (fun (v : Int) =>
  chk ((-9223372036854775808 ≤ (v + 1 : Int) ∧ (v + 1 : Int) ≤ 9223372036854775807)) <|
  if v + 1 < (y2.1.length : Int) then
  chk ((0 ≤ v ∧ v < y2.1.length) ∧ ((¬ (y2.1.getD v.toNat 0 < 0)) → (-9223372036854775808 ≤ (v + 1 : Int) ∧ (v + 1 : Int) ≤ 9223372036854775807)) ∧ ((¬ (y2.1.getD v.toNat 0 < 0)) → (0 ≤ v + 1 ∧ v + 1 < y2.1.length)) ∧ ((¬ (y2.1.getD v.toNat 0 < 0)) → (0 ≤ v ∧ v < y2.1.length))) <|
  (if ¬ (y2.1.getD v.toNat 0 < 0) then rotakeep_lets (y2.1.getD v.toNat 0) v else some 0).bind fun y3 =>
  if (y2.1.getD v.toNat 0 < 0 ∨ y3 < y2.1.getD (v + 1).toNat 0) then
  some (.inr (.inr false))
 else
  chk ((-9223372036854775808 ≤ (v + 1 : Int) ∧ (v + 1 : Int) ≤ 9223372036854775807)) <|
  some (.inl (v + 1))
 else
  some (.inr (.inl ()))) 1).bind fun z => match z with
  | .inl _ => (some true)
  | .inr rr => some rr

end Go.SH
