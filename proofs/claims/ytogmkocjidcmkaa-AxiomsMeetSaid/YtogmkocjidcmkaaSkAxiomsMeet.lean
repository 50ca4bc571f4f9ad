/-
  Functions of the program as plain functions: rotakeep_AxiomsMeet. By a program of mine (shal.py). Conditions: none.
-/
import Derived.Test.YtogmkocjidcmkaaAxN
import Derived.Test.YtogmkocjidcmkaaSpaxioms
import Derived.Test.YtogmkocjidcmkaaSprotakeep
import Derived.Test.YtogmkocjidcmkaaSprotaref
import Derived.Test.YtogmkocjidcmkaaSpslices
set_option linter.unusedVariables false
set_option linter.unusedSimpArgs false
namespace Go.SH
open Go Go.AX

noncomputable def rotakeep_AxiomsMeet (m_0 : Int) (m_1 : List Int) : Option (Bool) :=
  (rotakeep_two).bind fun y =>
  (axioms_Flats y.1 y.2).bind fun y1 =>
  if (y1.2 ≠ 0 ∨ (y1.1.length : Int) ≠ 6) then
  some false
 else
  (axioms_Flats m_0 m_1).bind fun y2 =>
  (axioms_Hyperplanes m_0 m_1).bind fun y3 =>
  if y2.2 ≠ 0 then
  chk (((y2.2 = y3.2) → (-9223372036854775808 ≤ ((y2.1.length : Int) + (y3.1.length : Int) : Int) ∧ ((y2.1.length : Int) + (y3.1.length : Int) : Int) ≤ 9223372036854775807))) <|
  some (decide ((y2.2 = y3.2 ∧ (y2.1.length : Int) + (y3.1.length : Int) = 0)))
 else
  (loopM (ρ := Unit ⊕ Bool) (fun (v : Int) =>
  if v < (y2.1.length : Int) then
  chk ((0 ≤ v ∧ v < y2.1.length)) <|
  (rotaref_All m_0).bind fun y4 =>
  (loopM (ρ := Unit ⊕ Bool) (fun (v1 : Int) =>
  if v1 < (y2.1.length : Int) then
  chk ((0 ≤ v1 ∧ v1 < y2.1.length)) <|
  (slices_Contains_int_int y2.1 (iand (y2.1.getD v.toNat 0) (y2.1.getD v1.toNat 0))).bind fun y5 =>
  if ¬ (y5 = true) then
  some (.inr (.inr false))
 else
  some (.inl (v1 + 1))
 else
  some (.inr (.inl ()))) 0).bind fun z => match z with
  | .inl _ => ((loopM (ρ := Int) (fun ((v2, v3) : Int × Int) =>
  if v3 < (y3.1.length : Int) then
  chk ((0 ≤ v3 ∧ v3 < y3.1.length)) <|
  (rotaref_Within (y2.1.getD v.toNat 0) (y3.1.getD v3.toNat 0)).bind fun y6 =>
  if y6 = true then
  some (.inl (iand v2 (y3.1.getD v3.toNat 0), v3 + 1))
 else
  some (.inl (v2, v3 + 1))
 else
  some (.inr v2)) (y4, 0)).bind fun (v4 : Int) =>
  if v4 ≠ y2.1.getD v.toNat 0 then
  some (.inr (.inr false))
 else
  some (.inl (v + 1)))
  | .inr rr => some (.inr (.inr rr))
 else
  some (.inr (.inl ()))) 0).bind fun z => match z with
  | .inl _ => (some (decide (y3.2 = 0)))
  | .inr rr => some rr

end Go.SH
