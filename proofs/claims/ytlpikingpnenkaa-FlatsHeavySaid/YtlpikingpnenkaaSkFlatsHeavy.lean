/-
  Functions of the program as plain functions: rotakeep_FlatsHeavy. By a program of mine (shal.py). Conditions: none.
-/
import Derived.Test.YtlpikingpnenkaaAxN
import Derived.Test.YtlpikingpnenkaaSp
import Derived.Test.YtlpikingpnenkaaSprotakeep
set_option linter.unusedVariables false
set_option linter.unusedSimpArgs false
namespace Go.SH
open Go Go.AX

noncomputable def rotakeep_FlatsHeavy (m_0 : Int) (m_1 : List Int) : Option (Bool) :=
  (rotakeep_two).bind fun y =>
  (flats_Levels y.1 y.2).bind fun y1 =>
  if ¬ (y1.2 ≠ 0) then
  (rotalaw_Same_int y1.1 [1, 4, 1]).bind fun y2 =>
  if ¬ (y2 = true) then
  some false
 else
  (flats_Levels m_0 m_1).bind fun y3 =>
  if y3.2 ≠ 0 then
  some (decide ((y3.1.length : Int) = 0))
 else
  chk ((-9223372036854775808 ≤ ((y3.1.length : Int) - 1 : Int) ∧ ((y3.1.length : Int) - 1 : Int) ≤ 9223372036854775807)) <|
  (loopM (ρ := Unit ⊕ Bool) (fun (i : Int) =>
  if i ≤ (y3.1.length : Int) - 1 then
  (loopM (ρ := Unit ⊕ Bool) (fun (j : Int) =>
  chk ((-9223372036854775808 ≤ (((y3.1.length : Int) - 1) - i : Int) ∧ (((y3.1.length : Int) - 1) - i : Int) ≤ 9223372036854775807)) <|
  if j ≤ ((y3.1.length : Int) - 1) - i then
  chk ((0 ≤ i ∧ i < y3.1.length) ∧ (0 ≤ j ∧ j < y3.1.length)) <|
  if y3.1.getD j.toNat 0 < y3.1.getD i.toNat 0 then
  some (.inr (.inr false))
 else
  chk ((-9223372036854775808 ≤ (j + 1 : Int) ∧ (j + 1 : Int) ≤ 9223372036854775807)) <|
  some (.inl (j + 1))
 else
  some (.inr (.inl ()))) i).bind fun z => match z with
  | .inl _ => (chk ((-9223372036854775808 ≤ (i + 1 : Int) ∧ (i + 1 : Int) ≤ 9223372036854775807)) <|
  some (.inl (i + 1)))
  | .inr rr => some (.inr (.inr rr))
 else
  some (.inr (.inl ()))) 0).bind fun z => match z with
  | .inl _ => (some true)
  | .inr rr => some rr
 else
  some false

end Go.SH
