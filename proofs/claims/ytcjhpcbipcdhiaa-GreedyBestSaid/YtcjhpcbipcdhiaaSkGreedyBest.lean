/-
  Functions of the program as plain functions: rotakeep_GreedyBest. By a program of mine (shal.py). Conditions: none.
-/
import Derived.Test.YtcjhpcbipcdhiaaAxN
import Derived.Test.YtcjhpcbipcdhiaaSpaxioms
import Derived.Test.YtcjhpcbipcdhiaaSpgreedy
import Derived.Test.YtcjhpcbipcdhiaaSprotakeep
import Derived.Test.YtcjhpcbipcdhiaaSprotaref
import Derived.Test.YtcjhpcbipcdhiaaSpsets
import Derived.Test.YtcjhpcbipcdhiaaSpslices
set_option linter.unusedVariables false
set_option linter.unusedSimpArgs false
namespace Go.SH
open Go Go.AX

noncomputable def rotakeep_GreedyBest (m_0 : Int) (m_1 : List Int) (a1 : List Int) (a2 : List Int) : Option (Bool) :=
  (rotakeep_two).bind fun y =>
  (greedy_Best y.1 y.2 [1, 2, 3, 4]).bind fun y1 =>
  if ((y1.2.2 ≠ 0 ∨ y1.1 ≠ 12) ∨ y1.2.1 ≠ 7) then
  some false
 else
  (greedy_Best m_0 m_1 a1).bind fun y2 =>
  (greedy_Steps m_0 m_1 a1).bind fun y3 =>
  if y2.2.2 ≠ 0 then
  some (decide ((((y2.2.2 = y3.2 ∧ y2.1 = 0) ∧ y2.2.1 = 0) ∧ (y3.1.length : Int) = 0)))
 else
  (if ¬ (y3.2 ≠ 0) then rotaref_Size y2.1 else some 0).bind fun y4 =>
  chk (((¬ (y3.2 ≠ 0)) → (-9223372036854775808 ≤ (y4 + 1 : Int) ∧ (y4 + 1 : Int) ≤ 9223372036854775807)) ∧ ((¬ ((y3.2 ≠ 0 ∨ (y3.1.length : Int) ≠ y4 + 1))) → (-9223372036854775808 ≤ ((y3.1.length : Int) - 1 : Int) ∧ ((y3.1.length : Int) - 1 : Int) ≤ 9223372036854775807)) ∧ ((¬ ((y3.2 ≠ 0 ∨ (y3.1.length : Int) ≠ y4 + 1))) → (0 ≤ (y3.1.length : Int) - 1 ∧ (y3.1.length : Int) - 1 < y3.1.length))) <|
  (if ¬ (((y3.2 ≠ 0 ∨ (y3.1.length : Int) ≠ y4 + 1) ∨ y3.1.getD ((y3.1.length : Int) - 1).toNat 0 ≠ y2.1)) then rotaref_Weighs a1 y2.1 else some 0).bind fun y5 =>
  (if ¬ ((((y3.2 ≠ 0 ∨ (y3.1.length : Int) ≠ y4 + 1) ∨ y3.1.getD ((y3.1.length : Int) - 1).toNat 0 ≠ y2.1) ∨ y5 ≠ y2.2.1)) then slices_Contains_int_int m_1 y2.1 else some false).bind fun y6 =>
  if ((((y3.2 ≠ 0 ∨ (y3.1.length : Int) ≠ y4 + 1) ∨ y3.1.getD ((y3.1.length : Int) - 1).toNat 0 ≠ y2.1) ∨ y5 ≠ y2.2.1) ∨ ¬ (y6 = true)) then
  some false
 else
  (axioms_Independents m_0 m_1).bind fun y7 =>
  (loopM (ρ := Unit ⊕ Bool) (fun (v : Int) =>
  if v < (y7.1.length : Int) then
  chk ((0 ≤ v ∧ v < y7.1.length)) <|
  (rotaref_Weighs a1 (y7.1.getD v.toNat 0)).bind fun y8 =>
  (rotaref_Size (y7.1.getD v.toNat 0)).bind fun y9 =>
  chk ((0 ≤ y9 ∧ y9 < y3.1.length)) <|
  (rotaref_Weighs a1 (y3.1.getD y9.toNat 0)).bind fun y10 =>
  if y10 < y8 then
  some (.inr (.inr false))
 else
  some (.inl (v + 1))
 else
  some (.inr (.inl ()))) 0).bind fun z => match z with
  | .inl _ => ((greedy_First m_0 m_1 a2).bind fun y11 =>
  if y11.2 ≠ 0 then
  some (decide (y11.1 = 0))
 else
  chk ((0 ≤ m_0 ∧ m_0 ≤ 1099511627776)) <|
  (loopM (ρ := List Int) (fun ((v1, v2) : List Int × Int) =>
  if v2 < (a2.length : Int) then
  chk ((0 ≤ v2 ∧ v2 < a2.length)) <|
  chk ((0 ≤ a2.getD v2.toNat 0 ∧ a2.getD v2.toNat 0 < v1.length)) <|
  some (.inl (v1.set (a2.getD v2.toNat 0).toNat v2, v2 + 1))
 else
  some (.inr v1)) (List.replicate m_0.toNat 0, 0)).bind fun (v3 : List Int) =>
  (loopM (ρ := Unit ⊕ Bool) (fun (v4 : Int) =>
  if v4 < (m_1.length : Int) then
  chk ((0 ≤ v4 ∧ v4 < m_1.length)) <|
  (rotaref_Image v3 y11.1).bind fun y12 =>
  (rotaref_Image v3 (m_1.getD v4.toNat 0)).bind fun y13 =>
  (sets_Below y12 y13).bind fun y14 =>
  if (y14.2 ≠ 0 ∨ ¬ (y14.1 = true)) then
  some (.inr (.inr false))
 else
  some (.inl (v4 + 1))
 else
  some (.inr (.inl ()))) 0).bind fun z => match z with
  | .inl _ => (some true)
  | .inr rr => some rr)
  | .inr rr => some rr

end Go.SH
