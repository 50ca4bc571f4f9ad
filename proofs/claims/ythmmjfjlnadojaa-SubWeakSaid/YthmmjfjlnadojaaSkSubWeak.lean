/-
  Functions of the program as plain functions: rotakeep_SubWeak. By a program of mine (shal.py). Conditions: none.
-/
import Derived.Test.YthmmjfjlnadojaaAxN
import Derived.Test.YthmmjfjlnadojaaSpsub
set_option linter.unusedVariables false
set_option linter.unusedSimpArgs false
namespace Go.SH
open Go Go.AX

noncomputable def rotakeep_SubWeak (n : Int) (a1 : List Int) (a2 : List Int) : Option (Bool) :=
  (sub_Least 1 [0, (-5)]).bind fun y =>
  if (((y.2.2.2 ≠ 0 ∨ y.1 ≠ (-5)) ∨ y.2.1 ≠ 1) ∨ y.2.2.1 ≠ 1) then
  some false
 else
  (sub_Vertex n a1 a2).bind fun y1 =>
  if y1.2 ≠ 0 then
  some (decide ((y1.1.length : Int) = 0))
 else
  (sub_Least n a1).bind fun y2 =>
  (loopM (ρ := Int) (fun ((v, v1) : Int × Int) =>
  if v1 < (y1.1.length : Int) then
  chk ((0 ≤ v1 ∧ v1 < y1.1.length)) <|
  chk ((-9223372036854775808 ≤ (v + (min (y1.1.getD v1.toNat 0) 0) : Int) ∧ (v + (min (y1.1.getD v1.toNat 0) 0) : Int) ≤ 9223372036854775807)) <|
  some (.inl (v + (min (y1.1.getD v1.toNat 0) 0), v1 + 1))
 else
  some (.inr v)) (0, 0)).bind fun (v2 : Int) =>
  some (decide ((y2.2.2.2 = 0 ∧ v2 ≤ y2.1)))

end Go.SH
