/-
  Functions of the program as plain functions: rotakeep_HallMarries. By a program of mine (shal.py). Conditions: none.
-/
import Derived.Test.YtobpcecpfojpmaaDoorAxN
import Derived.Test.YtobpcecpfojpmaaDoorSphall
import Derived.Test.YtobpcecpfojpmaaDoorSpkinds
import Derived.Test.YtobpcecpfojpmaaDoorSprotalaw
import Derived.Test.YtobpcecpfojpmaaDoorSprotaref
set_option linter.unusedVariables false
set_option linter.unusedSimpArgs false
namespace Go.SH
open Go Go.AX

noncomputable def rotakeep_HallMarries (n : Int) (a1 : List Int) : Option (Bool) :=
  (hall_Stand 2 [3, 1]).bind fun y =>
  if ¬ (y.2 ≠ 0) then
  (rotalaw_Same_int y.1 [1, 0]).bind fun y1 =>
  if ¬ (y1 = true) then
  some false
 else
  (hall_Stand n a1).bind fun y2 =>
  (hall_Bar n a1).bind fun y3 =>
  (hall_Most n a1).bind fun y4 =>
  if y4.2 ≠ 0 then
  some (decide ((((y2.1.length : Int) = 0 ∧ y3.1 = 0) ∧ y4.1 = 0)))
 else
  if ((y2.2 = 0 ↔ y3.2 = 0) ∨ ¬ (y2.2 = 0 ↔ y4.1 = (a1.length : Int))) then
  some false
 else
  (loopM (ρ := Unit ⊕ Bool) (fun ((v, v1) : Int × Int) =>
  if v1 < (y2.1.length : Int) then
  chk ((0 ≤ v1 ∧ v1 < y2.1.length)) <|
  chk ((0 ≤ v1 ∧ v1 < a1.length)) <|
  (rotaref_In (a1.getD v1.toNat 0) (y2.1.getD v1.toNat 0)).bind fun y5 =>
  (if ¬ (¬ (y5 = true)) then rotaref_In v (y2.1.getD v1.toNat 0) else some false).bind fun y6 =>
  if (¬ (y5 = true) ∨ y6 = true) then
  some (.inr (.inr false))
 else
  chk ((0 ≤ y2.1.getD v1.toNat 0 ∧ y2.1.getD v1.toNat 0 ≤ 62)) <|
  some (.inl (ior v (2 ^ (y2.1.getD v1.toNat 0).toNat : Int), v1 + 1))
 else
  some (.inr (.inl ()))) (0, 0)).bind fun z => match z with
  | .inl _ => ((hall_Lines n a1).bind fun y7 =>
  (if ¬ (y7.2.2 ≠ 0) then rotaref_Size y7.1 else some 0).bind fun y8 =>
  (if ¬ (y7.2.2 ≠ 0) then rotaref_Size y7.2.1 else some 0).bind fun y9 =>
  chk (((¬ (y7.2.2 ≠ 0)) → (-9223372036854775808 ≤ (y8 + y9 : Int) ∧ (y8 + y9 : Int) ≤ 9223372036854775807))) <|
  if (y7.2.2 ≠ 0 ∨ y8 + y9 ≠ y4.1) then
  some false
 else
  (loopM (ρ := Unit ⊕ Bool) (fun (v2 : Int) =>
  if v2 < (a1.length : Int) then
  chk ((0 ≤ v2 ∧ v2 < a1.length)) <|
  (rotaref_In y7.1 v2).bind fun y10 =>
  (if ¬ (y10 = true) then rotaref_Within (a1.getD v2.toNat 0) y7.2.1 else some false).bind fun y11 =>
  if (¬ (y10 = true) ∧ ¬ (y11 = true)) then
  some (.inr (.inr false))
 else
  some (.inl (v2 + 1))
 else
  some (.inr (.inl ()))) 0).bind fun z => match z with
  | .inl _ => ((kinds_Transversal n a1).bind fun y12 =>
  chk (((y12.2.2 = 0 ∧ 0 < (y12.2.1.length : Int)) → (0 ≤ 0 ∧ 0 < y12.2.1.length))) <|
  (if (y12.2.2 = 0 ∧ 0 < (y12.2.1.length : Int)) then rotaref_Size (y12.2.1.getD 0 0) else some 0).bind fun y13 =>
  some (decide (((y12.2.2 = 0 ∧ 0 < (y12.2.1.length : Int)) ∧ y13 = y4.1))))
  | .inr rr => some rr)
  | .inr rr => some rr
 else
  some false

end Go.SH
