/-
  Functions of the program as plain functions: rotakeep_ValuesPluecker_1_1, rotakeep_ValuesPluecker_1, rotakeep_two, rotakeep_SetsBlock_1. By a program of mine (shal.py). Conditions: none.
-/
import Derived.Test.YtdfclknhgpkghaaAxN
import Derived.Test.YtdfclknhgpkghaaSprotaref
import Derived.Test.YtdfclknhgpkghaaSpslices
set_option linter.unusedVariables false
set_option linter.unusedSimpArgs false
namespace Go.SH
open Go Go.AX

noncomputable def rotakeep_ValuesPluecker_1_1 (v_0 : Int) (v_1 : Int) (c0 : Int) : Option (Bool) :=
  some (decide (v_0 = c0))

noncomputable def rotakeep_ValuesPluecker_1 (b : Int) (c0 : List (Int × Int)) : Option (Int × Bool) :=
  (slices_IndexFunc_api_Value_api_Value c0 (fun x0 x1 => rotakeep_ValuesPluecker_1_1 x0 x1 b)).bind fun y =>
  if y < 0 then
  some (0, false)
 else
  chk ((0 ≤ y ∧ y < c0.length)) <|
  some ((c0.getD y.toNat (0, 0)).2, true)

noncomputable def rotakeep_two  : Option (Int × List Int) :=
  some (4, [3, 5, 6, 9, 10, 12])

noncomputable def rotakeep_SetsBlock_1 (t : Int) (c0 : Int) : Option (Bool) :=
  (rotaref_Within c0 t).bind fun y =>
  (if y = true then rotaref_Size t else some 0).bind fun y1 =>
  (if y = true then rotaref_Size c0 else some 0).bind fun y2 =>
  chk (((y = true) → (-9223372036854775808 ≤ (y2 + 1 : Int) ∧ (y2 + 1 : Int) ≤ 9223372036854775807))) <|
  some (decide ((y = true ∧ y1 = y2 + 1)))

end Go.SH
