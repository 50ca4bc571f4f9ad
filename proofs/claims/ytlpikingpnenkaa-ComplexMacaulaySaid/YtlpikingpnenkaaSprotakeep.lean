/-
  Functions of the program as plain functions: rotakeep_over, rotakeep_lets. By a program of mine (shal.py). Conditions: none.
-/
import Derived.Test.YtlpikingpnenkaaAxN
set_option linter.unusedVariables false
set_option linter.unusedSimpArgs false
namespace Go.SH
open Go Go.AX

noncomputable def rotakeep_over (n : Int) (k : Int) : Option (Int) :=
  if (k < 0 ∨ n < k) then
  some 0
 else
  (loopM (ρ := Int) (fun ((out0, v) : Int × Int) =>
  if v < k then
  chk ((-9223372036854775808 ≤ (n - v : Int) ∧ (n - v : Int) ≤ 9223372036854775807) ∧ (-9223372036854775808 ≤ (out0 * (n - v) : Int) ∧ (out0 * (n - v) : Int) ≤ 9223372036854775807) ∧ v + 1 ≠ 0 ∧ (-9223372036854775808 ≤ (Int.tdiv (out0 * (n - v)) (v + 1) : Int) ∧ (Int.tdiv (out0 * (n - v)) (v + 1) : Int) ≤ 9223372036854775807)) <|
  some (.inl (Int.tdiv (out0 * (n - v)) (v + 1), v + 1))
 else
  some (.inr out0)) (1, 0)).bind fun (out01 : Int) =>
  some out01

noncomputable def rotakeep_lets (h : Int) (k : Int) : Option (Int) :=
  (loopM (ρ := Int) (fun ((h1, k1, sum) : Int × Int × Int) =>
  if (0 < h1 ∧ 0 < k1) then
  (loopM (ρ := Int) (fun (n : Int) =>
  chk ((-9223372036854775808 ≤ (n + 1 : Int) ∧ (n + 1 : Int) ≤ 9223372036854775807)) <|
  (rotakeep_over (n + 1) k1).bind fun y =>
  if y ≤ h1 then
  chk ((-9223372036854775808 ≤ (n + 1 : Int) ∧ (n + 1 : Int) ≤ 9223372036854775807)) <|
  some (.inl (n + 1))
 else
  some (.inr n)) k1).bind fun (n1 : Int) =>
  (rotakeep_over n1 k1).bind fun y1 =>
  chk ((-9223372036854775808 ≤ (h1 - y1 : Int) ∧ (h1 - y1 : Int) ≤ 9223372036854775807)) <|
  chk ((-9223372036854775808 ≤ (n1 + 1 : Int) ∧ (n1 + 1 : Int) ≤ 9223372036854775807) ∧ (-9223372036854775808 ≤ (k1 + 1 : Int) ∧ (k1 + 1 : Int) ≤ 9223372036854775807)) <|
  (rotakeep_over (n1 + 1) (k1 + 1)).bind fun y2 =>
  chk ((-9223372036854775808 ≤ (sum + y2 : Int) ∧ (sum + y2 : Int) ≤ 9223372036854775807)) <|
  chk ((-9223372036854775808 ≤ (k1 - 1 : Int) ∧ (k1 - 1 : Int) ≤ 9223372036854775807)) <|
  some (.inl (h1 - y1, k1 - 1, sum + y2))
 else
  some (.inr sum)) (h, k, 0)).bind fun (sum1 : Int) =>
  some sum1

end Go.SH
