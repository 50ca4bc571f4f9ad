/-
  Functions of the program as plain functions: rotakeep_MinorsDual. By a program of mine (shal.py). Conditions: none.
-/
import Derived.Test.YtdfclknhgpkghaaAxN
import Derived.Test.YtdfclknhgpkghaaSpaxioms
import Derived.Test.YtdfclknhgpkghaaSpminors
import Derived.Test.YtdfclknhgpkghaaSprotakeep
import Derived.Test.YtdfclknhgpkghaaSprotalaw
import Derived.Test.YtdfclknhgpkghaaSprotaref
set_option linter.unusedVariables false
set_option linter.unusedSimpArgs false
namespace Go.SH
open Go Go.AX

noncomputable def rotakeep_MinorsDual (m_0 : Int) (m_1 : List Int) (a1 : Int) : Option (Bool) :=
  joinM (fun (_ : Unit) =>
  (minors_Dual m_0 m_1).bind fun y6 =>
  if y6.2.2 ≠ 0 then
  some (decide (y6.1 = 0))
 else
  (minors_Dual y6.1 y6.2.1).bind fun y7 =>
  (axioms_Circuits y6.1 y6.2.1).bind fun y8 =>
  (axioms_Hyperplanes m_0 m_1).bind fun y9 =>
  (if ¬ (((y7.2.2 ≠ 0 ∨ y8.2 ≠ 0) ∨ y9.2 ≠ 0)) then rotalaw_SameMatroid y7.1 y7.2.1 m_0 m_1 else some false).bind fun y10 =>
  if ((((y7.2.2 ≠ 0 ∨ y8.2 ≠ 0) ∨ y9.2 ≠ 0) ∨ ¬ (y10 = true)) ∨ (y8.1.length : Int) ≠ (y9.1.length : Int)) then
  some false
 else
  (loopM (ρ := Unit ⊕ Bool) (fun (v : Int) =>
  if v < (y8.1.length : Int) then
  chk ((0 ≤ v ∧ v < y8.1.length)) <|
  chk ((-9223372036854775808 ≤ ((y9.1.length : Int) - 1 : Int) ∧ ((y9.1.length : Int) - 1 : Int) ≤ 9223372036854775807) ∧ (-9223372036854775808 ≤ (((y9.1.length : Int) - 1) - v : Int) ∧ (((y9.1.length : Int) - 1) - v : Int) ≤ 9223372036854775807) ∧ (0 ≤ ((y9.1.length : Int) - 1) - v ∧ ((y9.1.length : Int) - 1) - v < y9.1.length)) <|
  (rotaref_All m_0).bind fun y11 =>
  if y9.1.getD (((y9.1.length : Int) - 1) - v).toNat 0 ≠ iandnot y11 (y8.1.getD v.toNat 0) then
  some (.inr (.inr false))
 else
  some (.inl (v + 1))
 else
  some (.inr (.inl ()))) 0).bind fun z => match z with
  | .inl _ => ((minors_Delete y6.1 y6.2.1 a1).bind fun y12 =>
  (minors_Contract m_0 m_1 a1).bind fun y13 =>
  if y12.2.2 ≠ 0 then
  some (decide (((y12.2.2 = y13.2.2 ∧ y12.1 = 0) ∧ y13.1 = 0)))
 else
  (minors_Dual y13.1 y13.2.1).bind fun y14 =>
  (if (y13.2.2 = 0 ∧ y14.2.2 = 0) then rotalaw_SameMatroid y12.1 y12.2.1 y14.1 y14.2.1 else some false).bind fun y15 =>
  some (decide (((y13.2.2 = 0 ∧ y14.2.2 = 0) ∧ y15 = true))))
  | .inr rr => some rr) fun j =>
  (rotakeep_two).bind fun y =>
  (minors_Dual y.1 y.2).bind fun y1 =>
  if ¬ (y1.2.2 ≠ 0) then
  (rotakeep_two).bind fun y2 =>
  (rotalaw_SameMatroid y1.1 y1.2.1 y2.1 y2.2).bind fun y3 =>
  if ¬ (y3 = true) then
  some false
 else
  j ()
 else
  some false

end Go.SH
