/-
  Functions of the program as plain functions: rotakeep_FlatsWhitney. By a program of mine (shal.py). Conditions: none.
-/
import Derived.Test.YtaajhfhbonmaiaaAxN
import Derived.Test.YtaajhfhbonmaiaaSpflats
import Derived.Test.YtaajhfhbonmaiaaSprotakeep
import Derived.Test.YtaajhfhbonmaiaaSprotalaw
import Derived.Test.YtaajhfhbonmaiaaSprotaref
set_option linter.unusedVariables false
set_option linter.unusedSimpArgs false
namespace Go.SH
open Go Go.AX

noncomputable def rotakeep_FlatsWhitney (m_0 : Int) (m_1 : List Int) : Option (Bool) :=
  (rotakeep_two).bind fun y =>
  (flats_Characteristic y.1 y.2).bind fun y1 =>
  if ¬ (y1.2 ≠ 0) then
  (rotalaw_Same_int64 y1.1 [3, (-4), 1]).bind fun y2 =>
  if ¬ (y2 = true) then
  some false
 else
  (flats_Characteristic m_0 m_1).bind fun y3 =>
  (flats_Broken m_0 m_1).bind fun y4 =>
  if y3.2 ≠ 0 then
  chk (((y3.2 = y4.2) → (-9223372036854775808 ≤ ((y3.1.length : Int) + (y4.1.length : Int) : Int) ∧ ((y3.1.length : Int) + (y4.1.length : Int) : Int) ≤ 9223372036854775807))) <|
  some (decide ((y3.2 = y4.2 ∧ (y3.1.length : Int) + (y4.1.length : Int) = 0)))
 else
  chk ((0 ≤ (y3.1.length : Int) ∧ (y3.1.length : Int) ≤ 1099511627776)) <|
  (loopM (ρ := (List Int) ⊕ Bool) (fun ((v, v1) : List Int × Int) =>
  if v1 < (y4.1.length : Int) then
  chk ((0 ≤ v1 ∧ v1 < y4.1.length)) <|
  (rotaref_Size (y4.1.getD v1.toNat 0)).bind fun y5 =>
  if (y3.1.length : Int) ≤ y5 then
  some (.inr (.inr false))
 else
  (rotaref_Size (y4.1.getD v1.toNat 0)).bind fun y6 =>
  chk ((0 ≤ y6 ∧ y6 < v.length) ∧ (-9223372036854775808 ≤ ((v.getD y6.toNat 0) + 1 : Int) ∧ ((v.getD y6.toNat 0) + 1 : Int) ≤ 9223372036854775807)) <|
  some (.inl (v.set y6.toNat ((v.getD y6.toNat 0) + 1), v1 + 1))
 else
  some (.inr (.inl v))) (List.replicate (y3.1.length : Int).toNat 0, 0)).bind fun z => match z with
  | .inl v2 => ((loopM (ρ := Unit ⊕ Bool) (fun (v3 : Int) =>
  if v3 < (v2.length : Int) then
  chk ((-9223372036854775808 ≤ ((y3.1.length : Int) - 1 : Int) ∧ ((y3.1.length : Int) - 1 : Int) ≤ 9223372036854775807) ∧ (-9223372036854775808 ≤ (((y3.1.length : Int) - 1) - v3 : Int) ∧ (((y3.1.length : Int) - 1) - v3 : Int) ≤ 9223372036854775807) ∧ (0 ≤ ((y3.1.length : Int) - 1) - v3 ∧ ((y3.1.length : Int) - 1) - v3 < y3.1.length)) <|
  (rotakeep_abs (y3.1.getD (((y3.1.length : Int) - 1) - v3).toNat 0)).bind fun y7 =>
  chk ((0 ≤ v3 ∧ v3 < v2.length)) <|
  if ((y7 ≠ v2.getD v3.toNat 0 ∨ (Int.tmod v3 2 = 0 ∧ y3.1.getD (((y3.1.length : Int) - 1) - v3).toNat 0 < 0)) ∨ (Int.tmod v3 2 = 1 ∧ 0 < y3.1.getD (((y3.1.length : Int) - 1) - v3).toNat 0)) then
  some (.inr (.inr false))
 else
  some (.inl (v3 + 1))
 else
  some (.inr (.inl ()))) 0).bind fun z => match z with
  | .inl _ => (some (decide (y4.2 = 0)))
  | .inr rr => some rr)
  | .inr rr => some rr
 else
  some false

end Go.SH
