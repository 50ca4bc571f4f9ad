/-
  Functions of the program as plain functions: cmp_isNaN_int, cmp_Less_int, cmp_Compare_int. By a program of mine (shal.py). Conditions: none.
-/
import Derived.Test.YthofnmjokdjppaaAxN
set_option linter.unusedVariables false
set_option linter.unusedSimpArgs false
namespace Go.SH
open Go Go.AX

noncomputable def cmp_isNaN_int (x : Int) : Option (Bool) :=
  some (decide (x ≠ x))

noncomputable def cmp_Less_int (x : Int) (y : Int) : Option (Bool) :=
  (cmp_isNaN_int x).bind fun y1 =>
  (if y1 = true then cmp_isNaN_int y else some false).bind fun y2 =>
  some (decide (((y1 = true ∧ ¬ (y2 = true)) ∨ x < y)))

noncomputable def cmp_Compare_int (x : Int) (y : Int) : Option (Int) :=
  (cmp_isNaN_int x).bind fun y1 =>
  (cmp_isNaN_int y).bind fun y2 =>
  if y1 = true then
  if y2 = true then
  some 0
 else
  some (-1)
 else
  if y2 = true then
  some 1
 else
  if x < y then
  some (-1)
 else
  if y < x then
  some 1
 else
  some 0

end Go.SH
