/-
  Functions of the program as plain functions: rotakeep_over. By a program of mine (shal.py). Conditions: none.
-/
import Derived.Test.YtlpikingpnenkaaAxN
set_option linter.unusedVariables false
set_option linter.unusedSimpArgs false
namespace Go.SH
open Go Go.AX

noncomputable def rotakeep_over (n : Int) (k : Int) : Option (Int) :=
  if (k < 0 ∨ n < k) then
  some 0
 else
  (loopM (ρ := Int) (fun ((out0, v) : Int × Int) =>
  if v < k then
  chk ((-9223372036854775808 ≤ (n - v : Int) ∧ (n - v : Int) ≤ 9223372036854775807) ∧ (-9223372036854775808 ≤ (out0 * (n - v) : Int) ∧ (out0 * (n - v) : Int) ≤ 9223372036854775807) ∧ v + 1 ≠ 0 ∧ (-9223372036854775808 ≤ (Int.tdiv (out0 * (n - v)) (v + 1) : Int) ∧ (Int.tdiv (out0 * (n - v)) (v + 1) : Int) ≤ 9223372036854775807)) <|
  some (.inl (Int.tdiv (out0 * (n - v)) (v + 1), v + 1))
 else
  some (.inr out0)) (1, 0)).bind fun (out01 : Int) =>
  some out01

end Go.SH
