/-
  Functions of the program as plain functions: rotakeep_ComplexKruskal. By a program of mine (shal.py). Conditions: none.
-/
import Derived.Test.YtcjhpcbipcdhiaaAxN
import Derived.Test.YtcjhpcbipcdhiaaSpcomplex
import Derived.Test.YtcjhpcbipcdhiaaSprotakeep
import Derived.Test.YtcjhpcbipcdhiaaSprotalaw
set_option linter.unusedVariables false
set_option linter.unusedSimpArgs false
namespace Go.SH
open Go Go.AX

noncomputable def rotakeep_ComplexKruskal (n : Int) (l : List Int) : Option (Bool) :=
  (complex_F 2 [3]).bind fun y =>
  if ¬ (y.2 ≠ 0) then
  (rotalaw_Same_int y.1 [1, 2, 1]).bind fun y1 =>
  if ¬ (y1 = true) then
  some false
 else
  (complex_F n l).bind fun y2 =>
  if y2.2 ≠ 0 then
  some (decide ((y2.1.length : Int) = 0))
 else
  (loopM (ρ := Unit ⊕ Bool) (fun (k : Int) =>
  if k < (y2.1.length : Int) then
  chk ((0 ≤ k ∧ k < y2.1.length)) <|
  (rotakeep_over n k).bind fun y3 =>
  chk (((¬ (y3 < y2.1.getD k.toNat 0)) → (-9223372036854775808 ≤ (k - 1 : Int) ∧ (k - 1 : Int) ≤ 9223372036854775807)) ∧ ((¬ (y3 < y2.1.getD k.toNat 0)) → (0 ≤ k - 1 ∧ k - 1 < y2.1.length)) ∧ ((¬ (y3 < y2.1.getD k.toNat 0)) → (0 ≤ k ∧ k < y2.1.length))) <|
  (if ¬ (y3 < y2.1.getD k.toNat 0) then rotakeep_shade n k (y2.1.getD k.toNat 0) else some 0).bind fun y4 =>
  if (y3 < y2.1.getD k.toNat 0 ∨ y2.1.getD (k - 1).toNat 0 < y4) then
  some (.inr (.inr false))
 else
  some (.inl (k + 1))
 else
  some (.inr (.inl ()))) 1).bind fun z => match z with
  | .inl _ => (some true)
  | .inr rr => some rr
 else
  some false

end Go.SH
