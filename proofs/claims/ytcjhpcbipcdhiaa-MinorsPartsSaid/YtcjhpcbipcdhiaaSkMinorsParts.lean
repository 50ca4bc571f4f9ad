/-
  Functions of the program as plain functions: rotakeep_MinorsParts. By a program of mine (shal.py). Conditions: none.
-/
import Derived.Test.YtcjhpcbipcdhiaaAxN
import Derived.Test.YtcjhpcbipcdhiaaAxP
import Derived.Test.YtcjhpcbipcdhiaaSpaxioms
import Derived.Test.YtcjhpcbipcdhiaaSpminors
import Derived.Test.YtcjhpcbipcdhiaaSprotakeep
import Derived.Test.YtcjhpcbipcdhiaaSprotalaw
import Derived.Test.YtcjhpcbipcdhiaaSprotaref
set_option linter.unusedVariables false
set_option linter.unusedSimpArgs false
namespace Go.SH
open Go Go.AX

noncomputable def rotakeep_MinorsParts (a_0 : Int) (a_1 : List Int) (a1_0 : Int) (a1_1 : List Int) : Option (Bool) :=
  (rotakeep_two).bind fun y =>
  (minors_Components y.1 y.2).bind fun y1 =>
  if ¬ (y1.2 ≠ 0) then
  (rotalaw_Same_int y1.1 [15]).bind fun y2 =>
  if ¬ (y2 = true) then
  some false
 else
  (minors_Components a_0 a_1).bind fun y3 =>
  (minors_Components a1_0 a1_1).bind fun y4 =>
  if (y3.2 ≠ 0 ∨ y4.2 ≠ 0) then
  some true
 else
  (axioms_Ranks a_0 a_1).bind fun y5 =>
  (loopM (ρ := (Int × Int) ⊕ Bool) (fun ((v, v1, v2) : Int × Int × Int) =>
  if v2 < (y3.1.length : Int) then
  chk ((0 ≤ v2 ∧ v2 < y3.1.length)) <|
  if iand v1 (y3.1.getD v2.toNat 0) ≠ 0 then
  some (.inr (.inr false))
 else
  chk ((0 ≤ y3.1.getD v2.toNat 0 ∧ y3.1.getD v2.toNat 0 < y5.1.length) ∧ (-9223372036854775808 ≤ (v + (y5.1.getD (y3.1.getD v2.toNat 0).toNat 0) : Int) ∧ (v + (y5.1.getD (y3.1.getD v2.toNat 0).toNat 0) : Int) ≤ 9223372036854775807)) <|
  some (.inl (v + (y5.1.getD (y3.1.getD v2.toNat 0).toNat 0), ior v1 (y3.1.getD v2.toNat 0), v2 + 1))
 else
  some (.inr (.inl (v, v1)))) (0, 0, 0)).bind fun z => match z with
  | .inl (v3, v4) => ((rotaref_All a_0).bind fun y6 =>
  chk (((¬ (v4 ≠ y6)) → (0 ≤ v4 ∧ v4 < y5.1.length))) <|
  if (v4 ≠ y6 ∨ v3 ≠ y5.1.getD v4.toNat 0) then
  some false
 else
  (minors_Simple a_0 a_1).bind fun y7 =>
  (minors_Simple y7.1 y7.2.1).bind fun y8 =>
  (minors_Classes y7.1 y7.2.1).bind fun y9 =>
  (if ¬ (((y7.2.2 ≠ 0 ∨ y8.2.2 ≠ 0) ∨ y9.2 ≠ 0)) then rotalaw_SameMatroid y7.1 y7.2.1 y8.1 y8.2.1 else some false).bind fun y10 =>
  if ((((y7.2.2 ≠ 0 ∨ y8.2.2 ≠ 0) ∨ y9.2 ≠ 0) ∨ ¬ (y10 = true)) ∨ (y9.1.length : Int) ≠ y7.1) then
  some false
 else
  (minors_Sum a_0 a_1 a1_0 a1_1).bind fun y11 =>
  if y11.2.2 ≠ 0 then
  chk (((y11.2.2 = 2) → (-9223372036854775808 ≤ (a_0 + a1_0 : Int) ∧ (a_0 + a1_0 : Int) ≤ 9223372036854775807))) <|
  some (decide ((y11.2.2 = 2 ∧ 8 < a_0 + a1_0)))
 else
  (minors_Components y11.1 y11.2.1).bind fun y12 =>
  (loopM (ρ := List Int) (fun ((v5, v6) : List Int × Int) =>
  if v6 < (y4.1.length : Int) then
  chk ((0 ≤ v6 ∧ v6 < y4.1.length)) <|
  chk ((shlOk .i64 (y4.1.getD v6.toNat 0) a_0 = true) ∧ ((v5 ++ [(y4.1.getD v6.toNat 0) * (2 ^ a_0.toNat : Int)]).length ≤ 8796093022208)) <|
  some (.inl (v5 ++ [(y4.1.getD v6.toNat 0) * (2 ^ a_0.toNat : Int)], v6 + 1))
 else
  some (.inr v5)) (y3.1, 0)).bind fun (v7 : List Int) =>
  chk ((v7.length < 4611686018427387904)) <|
  (if y12.2 = 0 then rotalaw_Same_int (sortL v7) y12.1 else some false).bind fun y13 =>
  some (decide ((y12.2 = 0 ∧ y13 = true))))
  | .inr rr => some rr
 else
  some false

end Go.SH
