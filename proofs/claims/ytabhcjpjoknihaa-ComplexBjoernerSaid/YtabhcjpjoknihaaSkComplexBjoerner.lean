/-
  Functions of the program as plain functions: rotakeep_ComplexBjoerner. By a program of mine (shal.py). Conditions: none.
-/
import Derived.Test.YtabhcjpjoknihaaAxN
import Derived.Test.YtabhcjpjoknihaaSp
import Derived.Test.YtabhcjpjoknihaaSprotakeep
import Derived.Test.YtabhcjpjoknihaaSprotaref
set_option linter.unusedVariables false
set_option linter.unusedSimpArgs false
namespace Go.SH
open Go Go.AX

noncomputable def rotakeep_ComplexBjoerner (m_0 : Int) (m_1 : List Int) : Option (Bool) :=
  (rotakeep_two).bind fun y =>
  (complex_Lexical y.1 y.2).bind fun y1 =>
  if ¬ (y1.2 ≠ 0) then
  (rotalaw_Same_int y1.1 [3, 5, 9, 6, 10, 12]).bind fun y2 =>
  if ¬ (y2 = true) then
  some false
 else
  (complex_Lexical m_0 m_1).bind fun y3 =>
  if y3.2 ≠ 0 then
  some (decide ((y3.1.length : Int) = 0))
 else
  (complex_Shells m_0 m_1 y3.1).bind fun y4 =>
  (complex_Restriction m_0 m_1 y3.1).bind fun y5 =>
  (complex_H m_0 m_1).bind fun y6 =>
  (tutte_Polynomial m_0 m_1).bind fun y7 =>
  if ((((((y4.2 ≠ 0 ∨ y5.2 ≠ 0) ∨ y6.2 ≠ 0) ∨ y7.2 ≠ 0) ∨ ¬ (y4.1 = true)) ∨ (y5.1.length : Int) ≠ (y3.1.length : Int)) ∨ (y6.1.length : Int) ≠ (y7.1.length : Int)) then
  some false
 else
  chk ((0 ≤ (y6.1.length : Int) ∧ (y6.1.length : Int) ≤ 1099511627776)) <|
  (loopM (ρ := (List Int) ⊕ Bool) (fun ((v, v1) : List Int × Int) =>
  if v1 < (y3.1.length : Int) then
  chk ((0 ≤ v1 ∧ v1 < y3.1.length)) <|
  (tutte_Activities m_0 m_1 (y3.1.getD v1.toNat 0)).bind fun y8 =>
  chk (((¬ (y8.2.2 ≠ 0)) → (0 ≤ v1 ∧ v1 < y5.1.length))) <|
  if (y8.2.2 ≠ 0 ∨ y5.1.getD v1.toNat 0 ≠ iandnot (y3.1.getD v1.toNat 0) y8.1) then
  some (.inr (.inr false))
 else
  chk ((0 ≤ v1 ∧ v1 < y5.1.length)) <|
  (rotaref_Size (y5.1.getD v1.toNat 0)).bind fun y9 =>
  chk ((0 ≤ y9 ∧ y9 < v.length) ∧ (-9223372036854775808 ≤ ((v.getD y9.toNat 0) + 1 : Int) ∧ ((v.getD y9.toNat 0) + 1 : Int) ≤ 9223372036854775807)) <|
  some (.inl (v.set y9.toNat ((v.getD y9.toNat 0) + 1), v1 + 1))
 else
  some (.inr (.inl v))) (List.replicate (y6.1.length : Int).toNat 0, 0)).bind fun z => match z with
  | .inl v2 => ((rotalaw_Same_int v2 y6.1).bind fun y10 =>
  if ¬ (y10 = true) then
  some false
 else
  (loopM (ρ := Unit ⊕ Bool) (fun (v3 : Int) =>
  if v3 < (y7.1.length : Int) then
  chk ((0 ≤ v3 ∧ v3 < y7.1.length)) <|
  (loopM (ρ := Int) (fun ((v4, v5) : Int × Int) =>
  if v5 < ((y7.1.getD v3.toNat []).length : Int) then
  chk ((0 ≤ v5 ∧ v5 < ((y7.1.getD v3.toNat []).length))) <|
  chk ((-9223372036854775808 ≤ (v4 + ((y7.1.getD v3.toNat []).getD v5.toNat 0) : Int) ∧ (v4 + ((y7.1.getD v3.toNat []).getD v5.toNat 0) : Int) ≤ 9223372036854775807)) <|
  some (.inl (v4 + ((y7.1.getD v3.toNat []).getD v5.toNat 0), v5 + 1))
 else
  some (.inr v4)) (0, 0)).bind fun (v6 : Int) =>
  chk ((-9223372036854775808 ≤ ((y6.1.length : Int) - 1 : Int) ∧ ((y6.1.length : Int) - 1 : Int) ≤ 9223372036854775807) ∧ (-9223372036854775808 ≤ (((y6.1.length : Int) - 1) - v3 : Int) ∧ (((y6.1.length : Int) - 1) - v3 : Int) ≤ 9223372036854775807) ∧ (0 ≤ ((y6.1.length : Int) - 1) - v3 ∧ ((y6.1.length : Int) - 1) - v3 < y6.1.length)) <|
  if v6 ≠ y6.1.getD (((y6.1.length : Int) - 1) - v3).toNat 0 then
  some (.inr (.inr false))
 else
  some (.inl (v3 + 1))
 else
  some (.inr (.inl ()))) 0).bind fun z => match z with
  | .inl _ => (some true)
  | .inr rr => some rr)
  | .inr rr => some rr
 else
  some false

end Go.SH
