/-
  Functions of the program as plain functions: rotakeep_SetsKruskal. By a program of mine (shal.py). Conditions: none.
-/
import Derived.Test.YtcjhpcbipcdhiaaAxN
import Derived.Test.YtcjhpcbipcdhiaaAxP
import Derived.Test.YtcjhpcbipcdhiaaSprotakeep
import Derived.Test.YtcjhpcbipcdhiaaSprotalaw
import Derived.Test.YtcjhpcbipcdhiaaSprotaref
import Derived.Test.YtcjhpcbipcdhiaaSpsets
import Derived.Test.YtcjhpcbipcdhiaaSpslices
set_option linter.unusedVariables false
set_option linter.unusedSimpArgs false
namespace Go.SH
open Go Go.AX

noncomputable def rotakeep_SetsKruskal (n : Int) (a1 : Int) (a2 : List Int) : Option (Bool) :=
  (sets_Shadow 2 [3]).bind fun y =>
  if ¬ (y.2 ≠ 0) then
  (rotalaw_Same_int y.1 [1, 2]).bind fun y1 =>
  if ¬ (y1 = true) then
  some false
 else
  (sets_Choose n a1).bind fun y2 =>
  if (y2.2 ≠ 0 ∨ a1 = 0) then
  some (decide ((y2.2 = 0 ∨ (y2.1.length : Int) = 0)))
 else
  (loopM (ρ := List Int) (fun ((v, v1) : List Int × Int) =>
  if v1 < (a2.length : Int) then
  chk ((0 ≤ v1 ∧ v1 < a2.length)) <|
  (rotaref_Pick (a2.getD v1.toNat 0) (y2.1.length : Int)).bind fun y3 =>
  chk ((0 ≤ y3 ∧ y3 < y2.1.length)) <|
  (slices_Contains_int_int v (y2.1.getD y3.toNat 0)).bind fun y4 =>
  if ¬ (y4 = true) then
  chk (((v ++ [y2.1.getD y3.toNat 0]).length ≤ 8796093022208)) <|
  some (.inl (v ++ [y2.1.getD y3.toNat 0], v1 + 1))
 else
  some (.inl (v, v1 + 1))
 else
  some (.inr v)) ([], 0)).bind fun (v2 : List Int) =>
  chk ((v2.length < 4611686018427387904)) <|
  (sets_Shadow n (sortL v2)).bind fun y5 =>
  (if y5.2 = 0 then rotakeep_shade n a1 ((sortL v2).length : Int) else some 0).bind fun y6 =>
  some (decide ((y5.2 = 0 ∧ y6 ≤ (y5.1.length : Int))))
 else
  some false

end Go.SH
