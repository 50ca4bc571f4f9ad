/-
  Functions of the program as plain functions: rotakeep_two, rotakeep_shade, rotakeep_over. By a program of mine (shal.py). Conditions: none.
-/
import Derived.Test.YtcjhpcbipcdhiaaAxN
import Derived.Test.YtcjhpcbipcdhiaaSprotaref
set_option linter.unusedVariables false
set_option linter.unusedSimpArgs false
namespace Go.SH
open Go Go.AX

noncomputable def rotakeep_two  : Option (Int × List Int) :=
  some (4, [3, 5, 6, 9, 10, 12])

noncomputable def rotakeep_shade (n : Int) (k : Int) (many : Int) : Option (Int) :=
  (loopM (ρ := List Int) (fun ((l, s) : List Int × Int) =>
  chk (((l.length : Int) < many → (0 ≤ n ∧ n ≤ 62))) <|
  if ((l.length : Int) < many ∧ s < (2 ^ n.toNat : Int)) then
  (rotaref_Size s).bind fun y =>
  if y = k then
  chk (((l ++ [s]).length ≤ 8796093022208)) <|
  chk ((-9223372036854775808 ≤ (s + 1 : Int) ∧ (s + 1 : Int) ≤ 9223372036854775807)) <|
  some (.inl (l ++ [s], s + 1))
 else
  chk ((-9223372036854775808 ≤ (s + 1 : Int) ∧ (s + 1 : Int) ≤ 9223372036854775807)) <|
  some (.inl (l, s + 1))
 else
  some (.inr l)) ([], 0)).bind fun (l1 : List Int) =>
  (rotaref_Shadow n l1).bind fun y1 =>
  some (y1.length : Int)

noncomputable def rotakeep_over (n : Int) (k : Int) : Option (Int) :=
  if (k < 0 ∨ n < k) then
  some 0
 else
  (loopM (ρ := Int) (fun ((out0, v) : Int × Int) =>
  if v < k then
  chk ((-9223372036854775808 ≤ (n - v : Int) ∧ (n - v : Int) ≤ 9223372036854775807) ∧ (-9223372036854775808 ≤ (out0 * (n - v) : Int) ∧ (out0 * (n - v) : Int) ≤ 9223372036854775807) ∧ v + 1 ≠ 0 ∧ (-9223372036854775808 ≤ (Int.tdiv (out0 * (n - v)) (v + 1) : Int) ∧ (Int.tdiv (out0 * (n - v)) (v + 1) : Int) ≤ 9223372036854775807)) <|
  some (.inl (Int.tdiv (out0 * (n - v)) (v + 1), v + 1))
 else
  some (.inr out0)) (1, 0)).bind fun (out01 : Int) =>
  some out01

end Go.SH
