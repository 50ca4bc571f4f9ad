/-
  Functions of the program as plain functions: rotakeep_SameIs. By a program of mine (shal.py). Conditions: none.
-/
import Derived.Test.YthofnmjokdjppaaAxN
import Derived.Test.YthofnmjokdjppaaSpaxioms
import Derived.Test.YthofnmjokdjppaaSprotakeep
import Derived.Test.YthofnmjokdjppaaSprotalaw
import Derived.Test.YthofnmjokdjppaaSprotaref
import Derived.Test.YthofnmjokdjppaaSpsame
import Derived.Test.YthofnmjokdjppaaSpsamec
import Derived.Test.YthofnmjokdjppaaSpsameg
import Derived.Test.YthofnmjokdjppaaSpsameo
import Derived.Test.YthofnmjokdjppaaSpsamer
set_option linter.unusedVariables false
set_option linter.unusedSimpArgs false
namespace Go.SH
open Go Go.AX

noncomputable def rotakeep_SameIs (m_0 : Int) (m_1 : List Int) (a1 : List Int) : Option (Bool) :=
  (rotakeep_two).bind fun y =>
  (same_Group y.1 y.2).bind fun y1 =>
  if (y1.2 ≠ 0 ∨ y1.1 ≠ 24) then
  some false
 else
  (axioms_Check m_0 m_1).bind fun y2 =>
  if y2 ≠ 0 then
  some true
 else
  (same_Canon m_0 m_1).bind fun y3 =>
  (same_Group m_0 m_1).bind fun y4 =>
  (same_Orbits m_0 m_1).bind fun y5 =>
  (same_Isomorphic m_0 m_1 y3.1 y3.2.1).bind fun y6 =>
  if (((y3.2.2 ≠ 0 ∨ y4.2 ≠ 0) ∨ y5.2 ≠ 0) ∨ y6.2 ≠ 0) then
  some false
 else
  (same_Rename m_0 m_1 y6.1).bind fun y7 =>
  (if ¬ (y7.2.2 ≠ 0) then rotalaw_SameMatroid y7.1 y7.2.1 y3.1 y3.2.1 else some false).bind fun y8 =>
  if (y7.2.2 ≠ 0 ∨ ¬ (y8 = true)) then
  some false
 else
  (loopM (ρ := Int) (fun ((v, v1) : Int × Int) =>
  if v1 ≤ m_0 then
  chk ((-9223372036854775808 ≤ (v * v1 : Int) ∧ (v * v1 : Int) ≤ 9223372036854775807)) <|
  chk ((-9223372036854775808 ≤ (v1 + 1 : Int) ∧ (v1 + 1 : Int) ≤ 9223372036854775807)) <|
  some (.inl (v * v1, v1 + 1))
 else
  some (.inr v)) (1, 2)).bind fun (v2 : Int) =>
  (loopM (ρ := Int ⊕ Bool) (fun ((v3, v4) : Int × Int) =>
  if v4 < (y5.1.length : Int) then
  chk ((0 ≤ v4 ∧ v4 < y5.1.length)) <|
  (if ¬ (iand v3 (y5.1.getD v4.toNat 0) ≠ 0) then rotaref_Size (y5.1.getD v4.toNat 0) else some 0).bind fun y9 =>
  chk (((¬ (iand v3 (y5.1.getD v4.toNat 0) ≠ 0)) → y9 ≠ 0)) <|
  if (iand v3 (y5.1.getD v4.toNat 0) ≠ 0 ∨ Int.tmod y4.1 y9 ≠ 0) then
  some (.inr (.inr false))
 else
  some (.inl (ior v3 (y5.1.getD v4.toNat 0), v4 + 1))
 else
  some (.inr (.inl v3))) (0, 0)).bind fun z => match z with
  | .inl v5 => (chk (y4.1 ≠ 0) <|
  (if ¬ (Int.tmod v2 y4.1 ≠ 0) then rotaref_All m_0 else some 0).bind fun y10 =>
  if (Int.tmod v2 y4.1 ≠ 0 ∨ v5 ≠ y10) then
  some false
 else
  (same_Rename m_0 m_1 a1).bind fun y11 =>
  if y11.2.2 ≠ 0 then
  some (decide (y11.1 = 0))
 else
  (same_Canon y11.1 y11.2.1).bind fun y12 =>
  (same_Group y11.1 y11.2.1).bind fun y13 =>
  (same_Isomorphic y11.1 y11.2.1 m_0 m_1).bind fun y14 =>
  (if ((y12.2.2 = 0 ∧ y13.2 = 0) ∧ y14.2 = 0) then rotalaw_SameMatroid y12.1 y12.2.1 y3.1 y3.2.1 else some false).bind fun y15 =>
  some (decide (((((y12.2.2 = 0 ∧ y13.2 = 0) ∧ y14.2 = 0) ∧ y15 = true) ∧ y13.1 = y4.1))))
  | .inr rr => some rr

end Go.SH
