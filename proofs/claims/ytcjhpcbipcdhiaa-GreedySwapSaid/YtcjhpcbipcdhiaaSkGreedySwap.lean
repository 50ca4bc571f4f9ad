/-
  Functions of the program as plain functions: rotakeep_GreedySwap. By a program of mine (shal.py). Conditions: none.
-/
import Derived.Test.YtcjhpcbipcdhiaaAxN
import Derived.Test.YtcjhpcbipcdhiaaSpaxioms
import Derived.Test.YtcjhpcbipcdhiaaSpgreedy
import Derived.Test.YtcjhpcbipcdhiaaSprotakeep
import Derived.Test.YtcjhpcbipcdhiaaSprotaref
import Derived.Test.YtcjhpcbipcdhiaaSpslices
set_option linter.unusedVariables false
set_option linter.unusedSimpArgs false
namespace Go.SH
open Go Go.AX

noncomputable def rotakeep_GreedySwap (m_0 : Int) (m_1 : List Int) (a1 : Int) (a2 : Int) (a3 : Int) : Option (Bool) :=
  (rotakeep_two).bind fun y =>
  (greedy_Swap y.1 y.2 3 12 1).bind fun y1 =>
  if (y1.2 ≠ 0 ∨ y1.1 ≠ 4) then
  some false
 else
  (axioms_Check m_0 m_1).bind fun y2 =>
  if y2 ≠ 0 then
  some true
 else
  (rotaref_Pick a1 (m_1.length : Int)).bind fun y3 =>
  chk ((0 ≤ y3 ∧ y3 < m_1.length)) <|
  (rotaref_Pick a2 (m_1.length : Int)).bind fun y4 =>
  chk ((0 ≤ y4 ∧ y4 < m_1.length)) <|
  (greedy_Swap m_0 m_1 (m_1.getD y3.toNat 0) (m_1.getD y4.toNat 0) (iand a3 (iandnot (m_1.getD y3.toNat 0) (m_1.getD y4.toNat 0)))).bind fun y5 =>
  (if ¬ (y5.2 ≠ 0) then rotaref_Within y5.1 (iandnot (m_1.getD y4.toNat 0) (m_1.getD y3.toNat 0)) else some false).bind fun y6 =>
  (if ¬ ((y5.2 ≠ 0 ∨ ¬ (y6 = true))) then slices_Contains_int_int m_1 (ior (iandnot (m_1.getD y3.toNat 0) (iand a3 (iandnot (m_1.getD y3.toNat 0) (m_1.getD y4.toNat 0)))) y5.1) else some false).bind fun y7 =>
  (if ¬ (((y5.2 ≠ 0 ∨ ¬ (y6 = true)) ∨ ¬ (y7 = true))) then slices_Contains_int_int m_1 (ior (iandnot (m_1.getD y4.toNat 0) y5.1) (iand a3 (iandnot (m_1.getD y3.toNat 0) (m_1.getD y4.toNat 0)))) else some false).bind fun y8 =>
  if (((y5.2 ≠ 0 ∨ ¬ (y6 = true)) ∨ ¬ (y7 = true)) ∨ ¬ (y8 = true)) then
  some false
 else
  (greedy_Ladder m_0 m_1 (m_1.getD y3.toNat 0) (m_1.getD y4.toNat 0)).bind fun y9 =>
  (if ¬ (y9.2 ≠ 0) then rotaref_Size (iandnot (m_1.getD y3.toNat 0) (m_1.getD y4.toNat 0)) else some 0).bind fun y10 =>
  chk (((¬ (y9.2 ≠ 0)) → (-9223372036854775808 ≤ (y10 + 1 : Int) ∧ (y10 + 1 : Int) ≤ 9223372036854775807)) ∧ ((¬ ((y9.2 ≠ 0 ∨ (y9.1.length : Int) ≠ y10 + 1))) → (0 ≤ 0 ∧ 0 < y9.1.length)) ∧ ((¬ (((y9.2 ≠ 0 ∨ (y9.1.length : Int) ≠ y10 + 1) ∨ y9.1.getD 0 0 ≠ m_1.getD y3.toNat 0))) → (-9223372036854775808 ≤ ((y9.1.length : Int) - 1 : Int) ∧ ((y9.1.length : Int) - 1 : Int) ≤ 9223372036854775807)) ∧ ((¬ (((y9.2 ≠ 0 ∨ (y9.1.length : Int) ≠ y10 + 1) ∨ y9.1.getD 0 0 ≠ m_1.getD y3.toNat 0))) → (0 ≤ (y9.1.length : Int) - 1 ∧ (y9.1.length : Int) - 1 < y9.1.length))) <|
  if (((y9.2 ≠ 0 ∨ (y9.1.length : Int) ≠ y10 + 1) ∨ y9.1.getD 0 0 ≠ m_1.getD y3.toNat 0) ∨ y9.1.getD ((y9.1.length : Int) - 1).toNat 0 ≠ m_1.getD y4.toNat 0) then
  some false
 else
  (loopM (ρ := Unit ⊕ Bool) (fun (v : Int) =>
  if v < (y9.1.length : Int) then
  chk ((0 ≤ v ∧ v < y9.1.length)) <|
  (slices_Contains_int_int m_1 (y9.1.getD v.toNat 0)).bind fun y11 =>
  chk ((((¬ (¬ (y11 = true))) ∧ 0 < v) → (-9223372036854775808 ≤ (v - 1 : Int) ∧ (v - 1 : Int) ≤ 9223372036854775807)) ∧ (((¬ (¬ (y11 = true))) ∧ 0 < v) → (0 ≤ v - 1 ∧ v - 1 < y9.1.length))) <|
  (if ((¬ (¬ (y11 = true))) ∧ 0 < v) then rotaref_Size (iandnot (y9.1.getD v.toNat 0) (y9.1.getD (v - 1).toNat 0)) else some 0).bind fun y12 =>
  if (¬ (y11 = true) ∨ (0 < v ∧ y12 ≠ 1)) then
  some (.inr (.inr false))
 else
  some (.inl (v + 1))
 else
  some (.inr (.inl ()))) 0).bind fun z => match z with
  | .inl _ => ((axioms_Circuits m_0 m_1).bind fun y13 =>
  (loopM (ρ := Unit ⊕ Bool) (fun (v1 : Int) =>
  if v1 < m_0 then
  (rotaref_In (m_1.getD y3.toNat 0) v1).bind fun y14 =>
  if y14 = true then
  some (.inl (v1 + 1))
 else
  (greedy_Fundamental m_0 m_1 (m_1.getD y3.toNat 0) v1).bind fun y15 =>
  (if ¬ (y15.2 ≠ 0) then slices_Contains_int_int y13.1 y15.1 else some false).bind fun y16 =>
  chk (((¬ ((y15.2 ≠ 0 ∨ ¬ (y16 = true)))) → (0 ≤ v1 ∧ v1 ≤ 62))) <|
  if ((y15.2 ≠ 0 ∨ ¬ (y16 = true)) ∨ iandnot y15.1 (m_1.getD y3.toNat 0) ≠ (2 ^ v1.toNat : Int)) then
  some (.inr (.inr false))
 else
  some (.inl (v1 + 1))
 else
  some (.inr (.inl ()))) 0).bind fun z => match z with
  | .inl _ => (some true)
  | .inr rr => some rr)
  | .inr rr => some rr

end Go.SH
