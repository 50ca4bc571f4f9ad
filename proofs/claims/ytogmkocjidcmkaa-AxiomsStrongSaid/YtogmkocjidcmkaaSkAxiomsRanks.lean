/-
  Functions of the program as plain functions: rotakeep_AxiomsRanks. By a program of mine (shal.py). Conditions: none.
-/
import Derived.Test.YtogmkocjidcmkaaAxN
import Derived.Test.YtogmkocjidcmkaaSpaxioms
import Derived.Test.YtogmkocjidcmkaaSprotakeep
import Derived.Test.YtogmkocjidcmkaaSprotaref
set_option linter.unusedVariables false
set_option linter.unusedSimpArgs false
namespace Go.SH
open Go Go.AX

noncomputable def rotakeep_AxiomsRanks (m_0 : Int) (m_1 : List Int) (a1 : Int) (a2 : Int) : Option (Bool) :=
  (rotakeep_two).bind fun y =>
  (axioms_Ranks y.1 y.2).bind fun y1 =>
  chk (((¬ ((y1.2 ≠ 0 ∨ (y1.1.length : Int) ≠ 16))) → (0 ≤ 15 ∧ 15 < y1.1.length))) <|
  if ((y1.2 ≠ 0 ∨ (y1.1.length : Int) ≠ 16) ∨ y1.1.getD 15 0 ≠ 2) then
  some false
 else
  (axioms_Ranks m_0 m_1).bind fun y2 =>
  if y2.2 ≠ 0 then
  some (decide ((y2.1.length : Int) = 0))
 else
  (axioms_Closure m_0 m_1 a1).bind fun y3 =>
  (axioms_Closure m_0 m_1 a2).bind fun y4 =>
  if (y3.2 ≠ 0 ∨ y4.2 ≠ 0) then
  some (decide ((y3.1 = 0 ∨ y4.1 = 0)))
 else
  chk ((0 ≤ a1 ∧ a1 < y2.1.length) ∧ (0 ≤ a2 ∧ a2 < y2.1.length) ∧ (-9223372036854775808 ≤ ((y2.1.getD a1.toNat 0) + (y2.1.getD a2.toNat 0) : Int) ∧ ((y2.1.getD a1.toNat 0) + (y2.1.getD a2.toNat 0) : Int) ≤ 9223372036854775807) ∧ (0 ≤ ior a1 a2 ∧ ior a1 a2 < y2.1.length) ∧ (0 ≤ iand a1 a2 ∧ iand a1 a2 < y2.1.length) ∧ (-9223372036854775808 ≤ ((y2.1.getD (ior a1 a2).toNat 0) + (y2.1.getD (iand a1 a2).toNat 0) : Int) ∧ ((y2.1.getD (ior a1 a2).toNat 0) + (y2.1.getD (iand a1 a2).toNat 0) : Int) ≤ 9223372036854775807) ∧ ((¬ ((y2.1.getD a1.toNat 0) + (y2.1.getD a2.toNat 0) < (y2.1.getD (ior a1 a2).toNat 0) + (y2.1.getD (iand a1 a2).toNat 0))) → (0 ≤ y3.1 ∧ y3.1 < y2.1.length)) ∧ ((¬ ((y2.1.getD a1.toNat 0) + (y2.1.getD a2.toNat 0) < (y2.1.getD (ior a1 a2).toNat 0) + (y2.1.getD (iand a1 a2).toNat 0))) → (0 ≤ a1 ∧ a1 < y2.1.length)) ∧ ((¬ (((y2.1.getD a1.toNat 0) + (y2.1.getD a2.toNat 0) < (y2.1.getD (ior a1 a2).toNat 0) + (y2.1.getD (iand a1 a2).toNat 0) ∨ y2.1.getD y3.1.toNat 0 ≠ y2.1.getD a1.toNat 0))) → (0 ≤ a1 ∧ a1 < y2.1.length))) <|
  (if ¬ (((y2.1.getD a1.toNat 0) + (y2.1.getD a2.toNat 0) < (y2.1.getD (ior a1 a2).toNat 0) + (y2.1.getD (iand a1 a2).toNat 0) ∨ y2.1.getD y3.1.toNat 0 ≠ y2.1.getD a1.toNat 0)) then rotaref_Size a1 else some 0).bind fun y5 =>
  (if ¬ ((((y2.1.getD a1.toNat 0) + (y2.1.getD a2.toNat 0) < (y2.1.getD (ior a1 a2).toNat 0) + (y2.1.getD (iand a1 a2).toNat 0) ∨ y2.1.getD y3.1.toNat 0 ≠ y2.1.getD a1.toNat 0) ∨ y5 < y2.1.getD a1.toNat 0)) then rotaref_Within a1 y3.1 else some false).bind fun y6 =>
  (if ¬ (((((y2.1.getD a1.toNat 0) + (y2.1.getD a2.toNat 0) < (y2.1.getD (ior a1 a2).toNat 0) + (y2.1.getD (iand a1 a2).toNat 0) ∨ y2.1.getD y3.1.toNat 0 ≠ y2.1.getD a1.toNat 0) ∨ y5 < y2.1.getD a1.toNat 0) ∨ ¬ (y6 = true))) then rotaref_Within a1 a2 else some false).bind fun y7 =>
  (if ((¬ (((((y2.1.getD a1.toNat 0) + (y2.1.getD a2.toNat 0) < (y2.1.getD (ior a1 a2).toNat 0) + (y2.1.getD (iand a1 a2).toNat 0) ∨ y2.1.getD y3.1.toNat 0 ≠ y2.1.getD a1.toNat 0) ∨ y5 < y2.1.getD a1.toNat 0) ∨ ¬ (y6 = true)))) ∧ y7 = true) then rotaref_Within y3.1 y4.1 else some false).bind fun y8 =>
  if (((((y2.1.getD a1.toNat 0) + (y2.1.getD a2.toNat 0) < (y2.1.getD (ior a1 a2).toNat 0) + (y2.1.getD (iand a1 a2).toNat 0) ∨ y2.1.getD y3.1.toNat 0 ≠ y2.1.getD a1.toNat 0) ∨ y5 < y2.1.getD a1.toNat 0) ∨ ¬ (y6 = true)) ∨ (y7 = true ∧ ¬ (y8 = true))) then
  some false
 else
  (axioms_Closure m_0 m_1 y3.1).bind fun y9 =>
  (axioms_Circuits m_0 m_1).bind fun y10 =>
  (loopM (ρ := Unit ⊕ Bool) (fun (v : Int) =>
  if v < (y10.1.length : Int) then
  chk ((0 ≤ v ∧ v < y10.1.length)) <|
  chk ((0 ≤ y10.1.getD v.toNat 0 ∧ y10.1.getD v.toNat 0 < y2.1.length)) <|
  (rotaref_Size (y10.1.getD v.toNat 0)).bind fun y11 =>
  chk ((-9223372036854775808 ≤ (y11 - 1 : Int) ∧ (y11 - 1 : Int) ≤ 9223372036854775807)) <|
  if y2.1.getD (y10.1.getD v.toNat 0).toNat 0 ≠ y11 - 1 then
  some (.inr (.inr false))
 else
  some (.inl (v + 1))
 else
  some (.inr (.inl ()))) 0).bind fun z => match z with
  | .inl _ => (some (decide (((y9.2 = 0 ∧ y10.2 = 0) ∧ y9.1 = y3.1))))
  | .inr rr => some rr

end Go.SH
