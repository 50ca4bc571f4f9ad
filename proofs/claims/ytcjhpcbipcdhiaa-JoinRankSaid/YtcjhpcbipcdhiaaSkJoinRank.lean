/-
  Functions of the program as plain functions: rotakeep_JoinRank. By a program of mine (shal.py). Conditions: none.
-/
import Derived.Test.YtcjhpcbipcdhiaaAxN
import Derived.Test.YtcjhpcbipcdhiaaSpaxioms
import Derived.Test.YtcjhpcbipcdhiaaSpjoin
import Derived.Test.YtcjhpcbipcdhiaaSprotakeep
import Derived.Test.YtcjhpcbipcdhiaaSprotalaw
import Derived.Test.YtcjhpcbipcdhiaaSprotaref
set_option linter.unusedVariables false
set_option linter.unusedSimpArgs false
namespace Go.SH
open Go Go.AX

noncomputable def rotakeep_JoinRank (a_0 : Int) (a_1 : List Int) (a1_0 : Int) (a1_1 : List Int) : Option (Bool) :=
  (rotakeep_two).bind fun y =>
  (rotakeep_two).bind fun y1 =>
  (join_Union y.1 y.2 y1.1 y1.2).bind fun y2 =>
  if ¬ (y2.2.2 ≠ 0) then
  (rotalaw_Same_int y2.2.1 [15]).bind fun y3 =>
  if ¬ (y3 = true) then
  some false
 else
  (join_Union a_0 a_1 a1_0 a1_1).bind fun y4 =>
  if y4.2.2 ≠ 0 then
  some (decide (y4.1 = 0))
 else
  (axioms_Ranks a_0 a_1).bind fun y5 =>
  (axioms_Ranks a1_0 a1_1).bind fun y6 =>
  if (y5.2 ≠ 0 ∨ y6.2 ≠ 0) then
  some false
 else
  (loopM (ρ := Int) (fun ((v, v1) : Int × Int) =>
  if v1 < (y5.1.length : Int) then
  chk ((0 ≤ v1 ∧ v1 < y5.1.length) ∧ (0 ≤ v1 ∧ v1 < y6.1.length) ∧ (-9223372036854775808 ≤ ((y5.1.getD v1.toNat 0) + (y6.1.getD v1.toNat 0) : Int) ∧ ((y5.1.getD v1.toNat 0) + (y6.1.getD v1.toNat 0) : Int) ≤ 9223372036854775807) ∧ (-9223372036854775808 ≤ (((y5.1.getD v1.toNat 0) + (y6.1.getD v1.toNat 0)) + a_0 : Int) ∧ (((y5.1.getD v1.toNat 0) + (y6.1.getD v1.toNat 0)) + a_0 : Int) ≤ 9223372036854775807)) <|
  (rotaref_Size v1).bind fun y7 =>
  chk ((-9223372036854775808 ≤ ((((y5.1.getD v1.toNat 0) + (y6.1.getD v1.toNat 0)) + a_0) - y7 : Int) ∧ ((((y5.1.getD v1.toNat 0) + (y6.1.getD v1.toNat 0)) + a_0) - y7 : Int) ≤ 9223372036854775807)) <|
  some (.inl (min v ((((y5.1.getD v1.toNat 0) + (y6.1.getD v1.toNat 0)) + a_0) - y7), v1 + 1))
 else
  some (.inr v)) (a_0, 0)).bind fun (v2 : Int) =>
  chk (((0 < (y4.2.1.length : Int)) → (0 ≤ 0 ∧ 0 < y4.2.1.length))) <|
  (if 0 < (y4.2.1.length : Int) then rotaref_Size (y4.2.1.getD 0 0) else some 0).bind fun y8 =>
  some (decide ((0 < (y4.2.1.length : Int) ∧ y8 = v2)))
 else
  some false

end Go.SH
