/-
  Functions of the program as plain functions: rotakeep_FlatsConcave. By a program of mine (shal.py). Conditions: none.
-/
import Derived.Test.YtlpikingpnenkaaAxN
import Derived.Test.YtlpikingpnenkaaSp
import Derived.Test.YtlpikingpnenkaaSprotakeep
set_option linter.unusedVariables false
set_option linter.unusedSimpArgs false
namespace Go.SH
open Go Go.AX

noncomputable def rotakeep_FlatsConcave (m_0 : Int) (m_1 : List Int) : Option (Bool) :=
  (rotakeep_two).bind fun y =>
  (flats_Independent y.1 y.2).bind fun y1 =>
  if ¬ (y1.2 ≠ 0) then
  (rotalaw_Same_int y1.1 [1, 4, 6]).bind fun y2 =>
  if ¬ (y2 = true) then
  some false
 else
  (flats_Characteristic m_0 m_1).bind fun y3 =>
  (flats_Independent m_0 m_1).bind fun y4 =>
  if y3.2 ≠ 0 then
  chk (((y3.2 = y4.2) → (-9223372036854775808 ≤ ((y3.1.length : Int) + (y4.1.length : Int) : Int) ∧ ((y3.1.length : Int) + (y4.1.length : Int) : Int) ≤ 9223372036854775807))) <|
  some (decide ((y3.2 = y4.2 ∧ (y3.1.length : Int) + (y4.1.length : Int) = 0)))
 else
  (loopM (ρ := Unit ⊕ Bool) (fun (v : Int) =>
  chk ((-9223372036854775808 ≤ (v + 1 : Int) ∧ (v + 1 : Int) ≤ 9223372036854775807)) <|
  if v + 1 < (y3.1.length : Int) then
  chk ((0 ≤ v ∧ v < y3.1.length) ∧ (-9223372036854775808 ≤ ((y3.1.getD v.toNat 0) * (y3.1.getD v.toNat 0) : Int) ∧ ((y3.1.getD v.toNat 0) * (y3.1.getD v.toNat 0) : Int) ≤ 9223372036854775807) ∧ (-9223372036854775808 ≤ (v - 1 : Int) ∧ (v - 1 : Int) ≤ 9223372036854775807) ∧ (0 ≤ v - 1 ∧ v - 1 < y3.1.length)) <|
  (rotakeep_abs (y3.1.getD (v - 1).toNat 0)).bind fun y5 =>
  chk ((-9223372036854775808 ≤ (v + 1 : Int) ∧ (v + 1 : Int) ≤ 9223372036854775807) ∧ (0 ≤ v + 1 ∧ v + 1 < y3.1.length)) <|
  (rotakeep_abs (y3.1.getD (v + 1).toNat 0)).bind fun y6 =>
  chk ((-9223372036854775808 ≤ (y5 * y6 : Int) ∧ (y5 * y6 : Int) ≤ 9223372036854775807)) <|
  if (y3.1.getD v.toNat 0) * (y3.1.getD v.toNat 0) < y5 * y6 then
  some (.inr (.inr false))
 else
  chk ((-9223372036854775808 ≤ (v + 1 : Int) ∧ (v + 1 : Int) ≤ 9223372036854775807)) <|
  some (.inl (v + 1))
 else
  some (.inr (.inl ()))) 1).bind fun z => match z with
  | .inl _ => ((loopM (ρ := Unit ⊕ Bool) (fun (v1 : Int) =>
  chk ((-9223372036854775808 ≤ (v1 + 1 : Int) ∧ (v1 + 1 : Int) ≤ 9223372036854775807)) <|
  if v1 + 1 < (y4.1.length : Int) then
  chk ((0 ≤ v1 ∧ v1 < y4.1.length) ∧ (-9223372036854775808 ≤ ((y4.1.getD v1.toNat 0) * (y4.1.getD v1.toNat 0) : Int) ∧ ((y4.1.getD v1.toNat 0) * (y4.1.getD v1.toNat 0) : Int) ≤ 9223372036854775807) ∧ (-9223372036854775808 ≤ (((y4.1.getD v1.toNat 0) * (y4.1.getD v1.toNat 0)) * v1 : Int) ∧ (((y4.1.getD v1.toNat 0) * (y4.1.getD v1.toNat 0)) * v1 : Int) ≤ 9223372036854775807) ∧ (-9223372036854775808 ≤ (m_0 - v1 : Int) ∧ (m_0 - v1 : Int) ≤ 9223372036854775807) ∧ (-9223372036854775808 ≤ ((((y4.1.getD v1.toNat 0) * (y4.1.getD v1.toNat 0)) * v1) * (m_0 - v1) : Int) ∧ ((((y4.1.getD v1.toNat 0) * (y4.1.getD v1.toNat 0)) * v1) * (m_0 - v1) : Int) ≤ 9223372036854775807) ∧ (-9223372036854775808 ≤ (v1 - 1 : Int) ∧ (v1 - 1 : Int) ≤ 9223372036854775807) ∧ (0 ≤ v1 - 1 ∧ v1 - 1 < y4.1.length) ∧ (-9223372036854775808 ≤ (v1 + 1 : Int) ∧ (v1 + 1 : Int) ≤ 9223372036854775807) ∧ (0 ≤ v1 + 1 ∧ v1 + 1 < y4.1.length) ∧ (-9223372036854775808 ≤ ((y4.1.getD (v1 - 1).toNat 0) * (y4.1.getD (v1 + 1).toNat 0) : Int) ∧ ((y4.1.getD (v1 - 1).toNat 0) * (y4.1.getD (v1 + 1).toNat 0) : Int) ≤ 9223372036854775807) ∧ (-9223372036854775808 ≤ (((y4.1.getD (v1 - 1).toNat 0) * (y4.1.getD (v1 + 1).toNat 0)) * (v1 + 1) : Int) ∧ (((y4.1.getD (v1 - 1).toNat 0) * (y4.1.getD (v1 + 1).toNat 0)) * (v1 + 1) : Int) ≤ 9223372036854775807) ∧ (-9223372036854775808 ≤ ((m_0 - v1) + 1 : Int) ∧ ((m_0 - v1) + 1 : Int) ≤ 9223372036854775807) ∧ (-9223372036854775808 ≤ ((((y4.1.getD (v1 - 1).toNat 0) * (y4.1.getD (v1 + 1).toNat 0)) * (v1 + 1)) * ((m_0 - v1) + 1) : Int) ∧ ((((y4.1.getD (v1 - 1).toNat 0) * (y4.1.getD (v1 + 1).toNat 0)) * (v1 + 1)) * ((m_0 - v1) + 1) : Int) ≤ 9223372036854775807)) <|
  if (((y4.1.getD v1.toNat 0) * (y4.1.getD v1.toNat 0)) * v1) * (m_0 - v1) < (((y4.1.getD (v1 - 1).toNat 0) * (y4.1.getD (v1 + 1).toNat 0)) * (v1 + 1)) * ((m_0 - v1) + 1) then
  some (.inr (.inr false))
 else
  chk ((-9223372036854775808 ≤ (v1 + 1 : Int) ∧ (v1 + 1 : Int) ≤ 9223372036854775807)) <|
  some (.inl (v1 + 1))
 else
  some (.inr (.inl ()))) 1).bind fun z => match z with
  | .inl _ => (some (decide (y4.2 = 0)))
  | .inr rr => some rr)
  | .inr rr => some rr
 else
  some false

end Go.SH
