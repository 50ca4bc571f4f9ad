/-
  Functions of the program as plain functions: rotakeep_HallOre. By a program of mine (shal.py). Conditions: none.
-/
import Derived.Test.YtobpcecpfojpmaaDoorAxN
import Derived.Test.YtobpcecpfojpmaaDoorSphall
import Derived.Test.YtobpcecpfojpmaaDoorSprotaref
set_option linter.unusedVariables false
set_option linter.unusedSimpArgs false
namespace Go.SH
open Go Go.AX

noncomputable def rotakeep_HallOre (n : Int) (l : List Int) : Option (Bool) :=
  (hall_Most 1 [1, 1, 0]).bind fun y =>
  if (y.2 ≠ 0 ∨ y.1 ≠ 1) then
  some false
 else
  (hall_Most n l).bind fun y1 =>
  if y1.2 ≠ 0 then
  some (decide (y1.1 = 0))
 else
  chk ((0 ≤ (l.length : Int) ∧ (l.length : Int) ≤ 62)) <|
  (loopM (ρ := Int) (fun ((worst, v) : Int × Int) =>
  if v < (2 ^ (l.length : Int).toNat : Int) then
  (rotaref_Size v).bind fun y2 =>
  (rotaref_Several l v).bind fun y3 =>
  (rotaref_Size y3).bind fun y4 =>
  chk ((-9223372036854775808 ≤ (y2 - y4 : Int) ∧ (y2 - y4 : Int) ≤ 9223372036854775807)) <|
  some (.inl (max worst (y2 - y4), v + 1))
 else
  some (.inr worst)) (0, 0)).bind fun (worst1 : Int) =>
  chk ((-9223372036854775808 ≤ ((l.length : Int) - worst1 : Int) ∧ ((l.length : Int) - worst1 : Int) ≤ 9223372036854775807)) <|
  some (decide (y1.1 = (l.length : Int) - worst1))

end Go.SH
