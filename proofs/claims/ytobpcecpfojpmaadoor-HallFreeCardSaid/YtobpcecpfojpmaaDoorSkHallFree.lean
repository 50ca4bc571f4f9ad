/-
  Functions of the program as plain functions: rotakeep_HallFree. By a program of mine (shal.py). Conditions: none.
-/
import Derived.Test.YtobpcecpfojpmaaDoorAxN
import Derived.Test.YtobpcecpfojpmaaDoorSpaxioms
import Derived.Test.YtobpcecpfojpmaaDoorSphall
import Derived.Test.YtobpcecpfojpmaaDoorSpkinds
import Derived.Test.YtobpcecpfojpmaaDoorSprotakeep
import Derived.Test.YtobpcecpfojpmaaDoorSprotalaw
import Derived.Test.YtobpcecpfojpmaaDoorSprotaref
set_option linter.unusedVariables false
set_option linter.unusedSimpArgs false
namespace Go.SH
open Go Go.AX

noncomputable def rotakeep_HallFree (m_0 : Int) (m_1 : List Int) (a1 : List Int) : Option (Bool) :=
  (rotakeep_two).bind fun y =>
  (hall_Rado y.1 y.2 [1, 3]).bind fun y1 =>
  if ¬ (y1.2 ≠ 0) then
  (rotalaw_Same_int y1.1 [0, 1]).bind fun y2 =>
  if ¬ (y2 = true) then
  some false
 else
  (hall_Rado m_0 m_1 a1).bind fun y3 =>
  (hall_RadoBar m_0 m_1 a1).bind fun y4 =>
  if (y3.2 ≠ 0 ∧ y3.2 ≠ 5) then
  some (decide (((y4.2 = y3.2 ∧ (y3.1.length : Int) = 0) ∧ y4.1 = 0)))
 else
  if (y3.2 = 0 ↔ y4.2 = 0) then
  some false
 else
  (axioms_Ranks m_0 m_1).bind fun y5 =>
  (loopM (ρ := Int ⊕ Bool) (fun ((v, v1) : Int × Int) =>
  if v1 < (y3.1.length : Int) then
  chk ((0 ≤ v1 ∧ v1 < y3.1.length)) <|
  chk ((0 ≤ v1 ∧ v1 < a1.length)) <|
  (rotaref_In (a1.getD v1.toNat 0) (y3.1.getD v1.toNat 0)).bind fun y6 =>
  (if ¬ (¬ (y6 = true)) then rotaref_In v (y3.1.getD v1.toNat 0) else some false).bind fun y7 =>
  if (¬ (y6 = true) ∨ y7 = true) then
  some (.inr (.inr false))
 else
  chk ((0 ≤ y3.1.getD v1.toNat 0 ∧ y3.1.getD v1.toNat 0 ≤ 62)) <|
  some (.inl (ior v (2 ^ (y3.1.getD v1.toNat 0).toNat : Int), v1 + 1))
 else
  some (.inr (.inl v))) (0, 0)).bind fun z => match z with
  | .inl v2 => (chk ((0 ≤ v2 ∧ v2 < y5.1.length)) <|
  (rotaref_Size v2).bind fun y8 =>
  if y5.1.getD v2.toNat 0 ≠ y8 then
  some false
 else
  (kinds_Uniform m_0 m_0).bind fun y9 =>
  (hall_Rado y9.1 y9.2.1 a1).bind fun y10 =>
  (hall_Stand m_0 a1).bind fun y11 =>
  (if y10.2 = y11.2 then rotalaw_Same_int y10.1 y11.1 else some false).bind fun y12 =>
  some (decide ((y10.2 = y11.2 ∧ y12 = true))))
  | .inr rr => some rr
 else
  some false

end Go.SH
