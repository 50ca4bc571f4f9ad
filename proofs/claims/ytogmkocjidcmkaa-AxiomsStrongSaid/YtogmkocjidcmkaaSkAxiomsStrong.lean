/-
  Functions of the program as plain functions: rotakeep_AxiomsStrong. By a program of mine (shal.py). Conditions: none.
-/
import Derived.Test.YtogmkocjidcmkaaAxN
import Derived.Test.YtogmkocjidcmkaaSpaxioms
import Derived.Test.YtogmkocjidcmkaaSprotakeep
import Derived.Test.YtogmkocjidcmkaaSprotalaw
import Derived.Test.YtogmkocjidcmkaaSprotaref
import Derived.Test.YtogmkocjidcmkaaSpslices
set_option linter.unusedVariables false
set_option linter.unusedSimpArgs false
namespace Go.SH
open Go Go.AX

noncomputable def rotakeep_AxiomsStrong (m_0 : Int) (m_1 : List Int) : Option (Bool) :=
  (axioms_Independents 1 [1]).bind fun y =>
  if ¬ (y.2 ≠ 0) then
  (rotalaw_Same_int y.1 [0, 1]).bind fun y1 =>
  if ¬ (y1 = true) then
  some false
 else
  (axioms_Circuits m_0 m_1).bind fun y2 =>
  if y2.2 ≠ 0 then
  some (decide ((y2.1.length : Int) = 0))
 else
  (loopM (ρ := Unit ⊕ Bool) (fun (v : Int) =>
  if v < (y2.1.length : Int) then
  chk ((0 ≤ v ∧ v < y2.1.length)) <|
  (loopM (ρ := Unit ⊕ Bool) (fun (v1 : Int) =>
  if v1 < (y2.1.length : Int) then
  chk ((0 ≤ v1 ∧ v1 < y2.1.length)) <|
  (rotaref_Elements (iand (y2.1.getD v.toNat 0) (y2.1.getD v1.toNat 0))).bind fun y3 =>
  (loopM (ρ := Unit ⊕ Bool) (fun (v2 : Int) =>
  if v2 < (y3.length : Int) then
  chk ((0 ≤ v2 ∧ v2 < y3.length)) <|
  (rotaref_Elements (iandnot (y2.1.getD v.toNat 0) (y2.1.getD v1.toNat 0))).bind fun y4 =>
  (loopM (ρ := Unit ⊕ Bool) (fun (v3 : Int) =>
  if v3 < (y4.length : Int) then
  chk ((0 ≤ v3 ∧ v3 < y4.length)) <|
  (slices_ContainsFunc_int_int y2.1 (fun x0 => rotakeep_AxiomsStrong_1 x0 (y4.getD v3.toNat 0) (y3.getD v2.toNat 0) (y2.1.getD v.toNat 0) (y2.1.getD v1.toNat 0))).bind fun y5 =>
  if ¬ (y5 = true) then
  some (.inr (.inr false))
 else
  some (.inl (v3 + 1))
 else
  some (.inr (.inl ()))) 0).bind fun z => match z with
  | .inl _ => (some (.inl (v2 + 1)))
  | .inr rr => some (.inr (.inr rr))
 else
  some (.inr (.inl ()))) 0).bind fun z => match z with
  | .inl _ => (some (.inl (v1 + 1)))
  | .inr rr => some (.inr (.inr rr))
 else
  some (.inr (.inl ()))) 0).bind fun z => match z with
  | .inl _ => (some (.inl (v + 1)))
  | .inr rr => some (.inr (.inr rr))
 else
  some (.inr (.inl ()))) 0).bind fun z => match z with
  | .inl _ => (some true)
  | .inr rr => some rr
 else
  some false

end Go.SH
